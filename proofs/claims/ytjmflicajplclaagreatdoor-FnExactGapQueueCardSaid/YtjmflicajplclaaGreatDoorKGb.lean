/- Texts of a claim, in one: part 2. -/
import Derived.LoopN
import Derived.Test.YtjmflicajplclaaGreatDoorKGa
set_option linter.unusedSimpArgs false
set_option linter.unusedVariables false
namespace Go.PM
section
variable {P:Program} {m:dE} {L0:Nat} {H:aE} {w:World}
theorem RL.const {zs:List Value} (h:zs.all jW=true):RL m zs zs :=
 ⟨rfl,fun j hj=>by
  have:=RV.const (m:=m) (List.all_eq_true.1 h _ (List.getElem_mem hj))
  simpa[List.getD_eq_getElem?_getD,List.getElem?_eq_getElem hj] using this⟩
theorem tW (n:Nat) (zs:List Value):(cU n zs).length=n*zs.length:=by simp[cU]
theorem vN (n:Nat) {zs:List Value} (h:zs.all jW=true) (h0:1≤zs.length):RL m (cU n zs) (cU n zs):=by
 refine⟨rfl,fun i hi => ?_⟩
 rw[tW] at hi
 have bA:i % zs.length<zs.length:=Nat.mod_lt _ h0
 have e:(cU n zs).getD i undef=zs.getD (i % zs.length) undef:=by simp[cU,List.getD_eq_getElem?_getD,hi]
 rw[e]
 exact(RL.const h).2 _ bA
theorem QP (n:Nat) {zs:List Value} (h:zs.all fO=true) (h0:1≤zs.length):(cU n zs).all fO=true:=by
 rw[List.all_eq_true]
 intro x hx
 obtain⟨i,_,rfl⟩:=List.mem_map.1 hx
 have bA:i % zs.length<zs.length:=Nat.mod_lt _ h0
 have:=List.all_eq_true.1 h _ (List.getElem_mem bA)
 simpa[List.getD_eq_getElem?_getD,List.getElem?_eq_getElem bA] using this
theorem I1 (z:Array Value) (n:Nat) (h0:1≤z.size):(madeCells z (n*z.size)).toList=cU n z.toList:=by
 apply List.ext_getElem
 ·simp[madeCells,cU]
 ·intro i h1 h2
  have bA:i % z.size<z.size:=Nat.mod_lt _ h0
  simp[madeCells,cU,bA]
theorem FJ (z:Array Value) (n:Nat) (h0:1≤z.size):(Builtin.zeroCells z n).toList=cU n z.toList:=by
 apply List.ext_getElem
 ·simp[Builtin.zeroCells,cU]
 ·intro i h1 h2
  have bA:i % z.size<z.size:=Nat.mod_lt _ h0
  simp[Builtin.zeroCells,cU,bA]
theorem ZG {t:TypeId} {agg:Bool} {size nb lo:Nat} {z:List Value} (ht:lM P t=some (agg,size,z,nb)) (Ih:z.all fO=true) (SC:z.all jW=true) (hR:Rel m L0 H w) (hf:m H.length=none) :
  cM P (do pure (.value (←Instr.alloc t true (.tuple #[])))) L0 lo m H w (.pointer (some ⟨H.length,0,none⟩)) (H++[.row z z.length false]):=by
 obtain⟨i,d,zz,hi,hd,Ha,rfl,rfl,rfl,rfl⟩:=iI ht
 have oY:(Instr.alloc t true (.tuple #[])).run P w = .ok (.pointer (some ⟨w.heap.size,0,none⟩)) (w.alloc (.cells zz.cells t)):=by
  simp[Instr.alloc,zeroValue,typeInfo,hi,Ha,newVar,newRow]
 have hA:=wI hR hf (w':=w.alloc (.cells zz.cells t)) (arr:=zz.cells) (e:=t) (fz:=(0,0)) rfl ⟨rfl,rfl,rfl⟩ (cs:=aM zz) (fJ:=(aM zz).length) (P8:=false)
  (by rw[eW];exact Nat.le_refl _) (fun i hi=>by
   have:=(RL.const (m:=m) SC).2 i hi
   rwa [←zM,fQ]) Ih (fun j _ h=>by simp at h)
 exact cM.value oY (.ptr _ 0 _ (bR m _ _)) hA.1 (hA.2 lo)
theorem Zy {t:TypeId} {v r:Value} {lo:Nat} (hv:RV m v r) (hs:(aM v).all fO=true) (hR:Rel m L0 H w) (hf:m H.length=none) :
  cM P (do pure (.value (←Instr.box t r))) L0 lo m H w (.pointer (some ⟨H.length,0,none⟩)) (H++[.row (aM v) (aM v).length false]):=by
 have oY:(Instr.box t r).run P w = .ok (.pointer (some ⟨w.heap.size,0,none⟩)) (w.alloc (.cells r.cells t)):=by
  simp[Instr.box,newVar,newRow]
 have hA:=wI hR hf (w':=w.alloc (.cells r.cells t)) (arr:=r.cells) (e:=t) (fz:=(0,0)) rfl ⟨rfl,rfl,rfl⟩ (cs:=aM v) (fJ:=(aM v).length) (P8:=false)
  (by rw[eW,hv.aM.1];exact Nat.le_refl _) (fun i hi=>by
   have:=hv.aM.2 i hi
   rwa [←zM,fQ]) hs (fun j _ h=>by simp at h)
 exact cM.value oY (.ptr _ 0 _ (bR m _ _)) hA.1 (hA.2 lo)
theorem Wu {t:TypeId} {agg:Bool} {size nb lo:Nat} {z:List Value} {kl kc:IntKind} {l c:Int} (ht:jK P t=some (agg,size,z,nb)) (Ih:z.all fO=true) (SC:z.all jW=true) (VJ:size=z.length) (D4:1≤size)
  (hl:0≤l) (hlc:l≤c) (hb:c*nb≤281474976710656) (hc:c≤9223372036854775807) (hR:Rel m L0 H w) (hf:m H.length=none) :
  cM P (do pure (.value (←Instr.makeSlice t (.int kl l) (.int kc c)))) L0 lo m H w (.slice (some ⟨H.length,0,none⟩) l.toNat c.toNat) (H++[.row (cU c.toNat z) z.length false]):=by
 obtain⟨e,hu,IQ⟩:=iS ht
 obtain⟨i,d,zz,hi,hd,Ha,rfl,rfl,rfl,rfl⟩:=iI IQ
 have oY:=run_make (P:=P) w t e i zz hu hi Ha kl kc l c hl hlc (by rw[Int.mul_comm];exact hb) hc
 have Ck:i.size=zz.cells.size:=by rw[VJ,eW]
 rw[Ck] at oY D4
 have Ul:(madeCells zz.cells (c.toNat*zz.cells.size)).toList=cU c.toNat (aM zz):=by rw[I1 _ _ D4,fQ]
 have arV:(madeCells zz.cells (c.toNat*zz.cells.size)).size=c.toNat*(aM zz).length:=by rw[size_madeCells,eW]
 have XH:1≤(aM zz).length:=by rw[←eW];exact D4
 have hA:=wI hR hf (w':=w.alloc (.cells (madeCells zz.cells (c.toNat*zz.cells.size)) e)) (arr:=madeCells zz.cells (c.toNat*zz.cells.size)) (e:=e) (fz:=(0,0)) rfl ⟨rfl,rfl,rfl⟩
  (cs:=cU c.toNat (aM zz)) (fJ:=(aM zz).length) (P8:=false) (by rw[arV,tW];exact Nat.le_refl _) (fun j hj=>by
   have:=(vN (m:=m) c.toNat SC XH).2 j hj
   rwa [←zM,Ul]) (QP _ Ih XH) (fun j _ h=>by simp at h)
 refine cM.value oY ?_ hA.1 (hA.2 lo)
 exact .slice _ 0 _ _ _ _ _ (bR m _ _) (by omega) (Nat.le_refl _) (fun _=>rfl) (.inr ⟨rfl,by simp only[arV];omega⟩)
theorem Y1 {t:TypeId} {agg:Bool} {size nb lo n:Nat} {z cs:List Value} {parts:List (Nat×Operand)} {ρ:Env} {a:Act} (ht:jK P t=some (agg,size,z,nb)) (Ih:z.all fO=true) (SC:z.all jW=true) (VJ:size=z.length) (D4:1≤size) (hn:n*size≤16777216)
  (ahW:vH ((List.range n).map fun i=>(i*z.length,z.length)) (cU n z) (parts.map fun(i,x)=>(i,ev ρ x))=some cs) (uN:cs.all fO=true) (hr:∀p∈parts,RV m (ev ρ p.2) (a.eval p.2))
  (hR:Rel m L0 H w) (hf:m H.length=none) :
  cM P (do pure (.value (←Instr.buildSlice t n (parts.toArray.map fun(i,x)=>(i,a.eval x))))) L0 lo m H w (.slice (some ⟨H.length,0,none⟩) n n) (H++[.row cs z.length false]):=by
 obtain⟨e,hu,IQ⟩:=iS ht
 obtain⟨i,d,zz,hi,hd,Ha,rfl,rfl,rfl,rfl⟩:=iI IQ
 have Ck:i.size=zz.cells.size:=by rw[VJ,eW]
 have XH:1≤(aM zz).length:=by rw[←eW,←Ck];exact D4
 have Mm:∀j q,((List.range n).map fun i=>(i*(aM zz).length,(aM zz).length))[j]? = some q→(fun i'=>some (i'*i.size,i.size):Nat→Option (Nat×Nat)) j=some q:=by
  intro j q hj
  simp only[List.getElem?_map,Option.map_eq_some_iff] at hj
  obtain⟨k,hk,rfl⟩:=hj
  have hk':=(List.getElem?_eq_some_iff.1 hk)
  obtain⟨hk1,hk2⟩:=hk'
  simp at hk2
  subst hk2
  rw[←VJ]
 have hz:RL m (cU n (aM zz)) ((Array.range (n*i.size)).map (zz.cells[· % zz.cells.size]!)).toList:=by
  have:=vN (m:=m) n SC XH
  rw[Ck]
  have e1:=I1 zz.cells n (by rw[←Ck];exact D4)
  rw[fQ] at e1
  show RL m _ (madeCells zz.cells (n*zz.cells.size)).toList
  rw[e1]
  exact this
 obtain⟨K6,h1,h2⟩:=RJ (m:=m) _ _ Mm (parts.map fun(i,x)=>(i,ev ρ x)) (parts.map fun(i,x)=>(i,a.eval x)) _ _ cs
  (by simp[Function.comp_def]) (by simpa[Function.comp_def] using RL.map (l:=parts) (f:=fun p=>ev ρ p.2) (g:=fun p=>a.eval p.2) hr) hz ahW
 have hlen:cs.length=n*(aM zz).length:=by rw[OF _ _ _ _ ahW,tW]
 have emap:(Array.map (fun x:Nat×Operand=>(x.1,a.eval x.2)) parts.toArray).toList=parts.map fun(i,x)=>(i,a.eval x):=by simp
 have SY:¬(2^24<n*i.size):=by omega
 have oY:(Instr.buildSlice t n (parts.toArray.map fun(i,x)=>(i,a.eval x))).run P w = .ok (.slice (some ⟨w.heap.size,0,none⟩) n n) (w.alloc (.cells K6 e)):=by
  have X7:Instr.fill (fun i'=>some (i'*i.size,i.size)) ((Array.range (n*i.size)).map (zz.cells[· % zz.cells.size]!)) (Array.map (fun x:Nat×Operand=>(x.1,a.eval x.2)) parts.toArray).toList=some K6:=by rw[emap];exact h1
  by_cases YC:n*i.size=0
  ·rw[YC] at X7
   simp only[show ∀f:Nat→Value,(Array.range 0).map f = #[] from fun f=>by simp] at X7
   unfold Instr.buildSlice
   simp only[Sem.run_bind,run_underlying hu,Result.andThen_ok,run_sizeOf e i hi,YC,if_true,Sem.run_pure,show ¬(0>2^24) by omega,if_false]
   rw[show ∀f:Nat→Value,(Array.range 0).map f = #[] from fun f=>by simp]
   simp only[X7]
   simp[newRow]
  ·unfold Instr.buildSlice
   simp only[Sem.run_bind,run_underlying hu,Result.andThen_ok,run_sizeOf e i hi,YC,if_false,Sem.run_pure,gt_iff_lt,SY,zeroValue,typeInfo,run_program,hi,Ha]
   simp only[X7]
   simp[newRow]
 have Yw:K6.size=n*(aM zz).length:=by rw[←hlen];simpa using h2.1.symm
 have hA:=wI hR hf (w':=w.alloc (.cells K6 e)) (arr:=K6) (e:=e) (fz:=(0,0)) rfl ⟨rfl,rfl,rfl⟩ (cs:=cs) (fJ:=(aM zz).length) (P8:=false)
  (by rw[hlen,Yw];exact Nat.le_refl _) (fun j hj=>by rw[←zM];exact h2.2 j hj) uN (fun j _ h=>by simp at h)
 refine cM.value oY ?_ hA.1 (hA.2 lo)
 exact .slice _ 0 _ _ _ _ _ (bR m _ _) (Nat.le_refl _) (Nat.le_refl _) (fun _=>rfl) (.inr ⟨rfl,by simp only[Yw];omega⟩)
theorem S9 (g:Value→ByteArray→Sem (ForInStep ByteArray)) (hg:∀n s,g (.int .u8 n) s=pure (ForInStep.yield (s.push (UInt8.ofNat n.toNat)))):∀(cs rs:List Value) (bs:List UInt8) (acc:ByteArray),RL m cs rs→tA cs=some bs→∀w,
  (forIn rs acc g).run P w = .ok ⟨(acc.data.toList++bs).toArray⟩ w:=by
 intro cs
 induction cs with
 |
  nil =>
  intro rs bs acc hr hb w
  have e0:rs=[]:=List.eq_nil_of_length_eq_zero hr.1.symm
  subst e0
  cases hb
  simp
 |
  cons c cs ih =>
  intro rs bs acc hr hb w
  cases rs with
  | nil=>exact absurd hr.1 (by simp)
  |
   cons r rs =>
   obtain⟨hc,NW⟩:=hr.jF
   unfold tA at hb
   split at hb
   ·rename_i heq;cases heq
   ·rename_i n rest heq
    cases heq
    cases hc
    cases h2:tA cs with
    | none=>rw[h2] at hb;cases hb
    |
     some bs' =>
     rw[h2] at hb
     cases hb
     simp only[List.forIn_cons,hg,Sem.run_bind,Sem.run_pure,Result.andThen_ok]
     rw[ih rs bs' _ NW h2 w]
     simp[ByteArray.push]
   ·cases hb
theorem aaH {s d e:TypeId} {rp:Value} {lo n b off c:Nat} {cs:List Value} {bs:List UInt8} (hs:P.underlying s=some (.slice e)) (hd:P.underlying d=some .string) (he:P.underlying e=some (.int .u8))
  (UH:H.read b off n=some cs) (hb:tA cs=some bs) (hR:Rel m L0 H w) (hp:RV m (.slice (some ⟨b,off,none⟩) n c) rp) :
  cM P (do pure (.value (←convert s d rp))) L0 lo m H w (.string ⟨bs.toArray⟩) H:=by
 cases hp with
 |
  slice _ _ _ _ l ra rc hm hn hc hx ha =>
  obtain⟨rs,h1,h2,_,h3⟩:=wK hR hm UH
  have aqG:(loadCells ra n).run P w = .ok rs.toArray w:=by
   rcases ha with ha | ⟨rfl,ha⟩
   ·have h0:n=0:=by omega
    subst h0
    have e0:rs=[]:=List.eq_nil_of_length_eq_zero h2
    subst e0
    rfl
   ·rw[←h2]
    exact run_loadCells_list w _ rs h3
  refine cM.value (rv := .string ⟨bs.toArray⟩) (w':=w) (m':=m) ?_ (.str _) hR (Trans.refl lo m H w)
  simp only[convert,Sem.run_bind,run_underlying hs,run_underlying hd,Result.andThen_ok,run_underlying he,Conv.bytesToString,aqG,←Array.forIn_toList]
  rw[S9 (P:=P) (m:=m) _ (fun n s=>rfl) cs rs bs ByteArray.empty h1 hb w]
  simp
theorem NU {t e:TypeId} {i:TypeInfo} (hu:P.underlying t=some (.slice e)) (hi:P.info? e=some i) {a:Option Addr} {n c:Nat} {lo oJ mx:Option Value} {l h k:Nat}
  (hb:(Instr.sliceBounds true n c lo oJ mx).run P w = .ok (l,h,k) w) :
  (Instr.sliceAt t (.slice a n c) lo oJ mx).run P w = .ok (.slice (if k=l then a else a.map (·.add (l*i.size))) (h-l) (k-l)) w:=by
 have h1:(Instr.sliceAt t (.slice a n c) lo oJ mx).run P w=(Instr.slice t (.slice a n c) lo oJ mx).run P w:=by
  unfold Instr.sliceAt
  rw[Sem.run_bind,run_underlying hu,Result.andThen_ok]
 rw[h1]
 unfold Instr.slice
 rw[Sem.run_bind,run_underlying hu,Result.andThen_ok]
 simp[hb,run_sizeOf e i hi]
theorem YH {t e:TypeId} {i:TypeInfo} {lo:Nat} {x rx v:Value} {l h mx l' h' mx':Option Value} {H':aE} (hu:P.underlying t=some (.slice e)) (hi:P.info? e=some i)
  (hs:Cf i.size x l h mx H=some (v,H')) (hx:RV m x rx) (hl:RO m l l') (hh:RO m h h') (hm:RO m mx mx') (hR:Rel m L0 H w) (hf:∀b,H.length≤b→b<H'.length→m b=none) :
  cM P (do pure (.value (←Instr.sliceAt t rx l' h' mx'))) L0 lo m H w v H':=by
 unfold Cf at hs
 split at hs
 ·rename_i n c
  split at hs
  ·rename_i h0
   obtain⟨rfl,rfl⟩:=h0
   cases hx
   split at hs
   ·cases hs
   ·rename_i M hM
    split at hs
    ·cases hs
    ·rename_i hb hhb
     split at hs
     ·cases hs
     ·rename_i lb EE
      cases hs
      have key:∃k1 k2 k3,(Instr.sliceBounds true 0 0 l' h' mx').run P w = .ok (k1,k2,k3) w∧k1=0∧k2=0∧k3=0:=by
       rcases oF (P:=P) hM hm with⟨rfl,rfl,e1⟩ | ⟨_,r1,rfl,rfl,q1,e1⟩<;>rcases oF (P:=P) hhb hh with⟨_,rfl,e2⟩ | ⟨_,r2,_,rfl,q2,e2⟩<;>rcases oF (P:=P) EE hl with⟨_,rfl,e3⟩ | ⟨_,r3,_,rfl,q3,e3⟩
       ·cases e1;cases e2;cases e3
        exact⟨0,0,0,rfl,rfl,rfl,rfl⟩
       ·cases e1;cases e2
        exact⟨lb,0,0,by simp[Instr.sliceBounds,e3 0 (Nat.le_refl _)],by omega,rfl,rfl⟩
       ·cases e1;cases e3
        exact⟨0,hb,0,by simp[Instr.sliceBounds,e2 0 (Nat.le_refl _)],rfl,by omega,rfl⟩
       ·cases e1
        exact⟨lb,hb,0,by simp[Instr.sliceBounds,e2 0 (Nat.le_refl _),e3 hb (Nat.le_refl _)],by omega,by omega,rfl⟩
       ·cases e2
       ·cases e2
       ·cases e3
        exact⟨0,hb,M,by simp[Instr.sliceBounds,e1 0 (Nat.le_refl _),e2 M (Nat.le_refl _)],rfl,by omega,by omega⟩
       ·exact⟨lb,hb,M,by simp[Instr.sliceBounds,e1 0 (Nat.le_refl _),e2 M (Nat.le_refl _),e3 hb (Nat.le_refl _)],by omega,by omega,by omega⟩
      obtain⟨k1,k2,k3,hk,rfl,rfl,rfl⟩:=key
      exact cM.value (NU hu hi hk) (by simpa using RV.MK) hR (Trans.refl lo m H w)
  ·cases hs
 ·rename_i b o n c
  cases hx with
  |
   slice _ _ _ _ lc ra rc T9 YA hcr hxp ha =>
   split at hs
   ·rename_i cells es p Wg
    obtain⟨g1,g2,g3,g4⟩:=hR.row b lc cells es p T9 Wg
    split at hs
    ·rename_i MH
     subst MH
     split at hs
     ·cases hs
     ·rename_i M hM
      split at hs
      ·cases hs
      ·rename_i hb hhb
       split at hs
       ·cases hs
       ·rename_i lb EE
        have key:∃k3,(Instr.sliceBounds true n rc l' h' mx').run P w = .ok (lb,hb,k3) w∧lb≤hb∧hb≤M∧M≤c∧((mx=none∧k3=rc∧M=c)∨(mx.isSome=true∧k3=M)):=by
         rcases oF (P:=P) hM hm with⟨rfl,rfl,e1⟩ | ⟨_,r1,rfl,rfl,q1,e1⟩<;>rcases oF (P:=P) hhb hh with⟨_,rfl,e2⟩ | ⟨_,r2,_,rfl,q2,e2⟩<;>rcases oF (P:=P) EE hl with⟨_,rfl,e3⟩ | ⟨_,r3,_,rfl,q3,e3⟩
         ·cases e1;cases e2;cases e3
          exact⟨rc,rfl,Nat.zero_le _,YA,Nat.le_refl _,.inl ⟨rfl,rfl,rfl⟩⟩
         ·cases e1;cases e2
          exact⟨rc,by simp[Instr.sliceBounds,e3 n (Nat.le_refl _)],q3,YA,Nat.le_refl _,.inl ⟨rfl,rfl,rfl⟩⟩
         ·cases e1;cases e3
          exact⟨rc,by simp[Instr.sliceBounds,e2 rc hcr],Nat.zero_le _,q2,Nat.le_refl _,.inl ⟨rfl,rfl,rfl⟩⟩
         ·cases e1
          exact⟨rc,by simp[Instr.sliceBounds,e2 rc hcr,e3 hb (Nat.le_refl _)],q3,q2,Nat.le_refl _,.inl ⟨rfl,rfl,rfl⟩⟩
         ·cases e2
         ·cases e2
         ·cases e3
          exact⟨M,by simp[Instr.sliceBounds,e1 rc hcr,e2 M (Nat.le_refl _)],Nat.zero_le _,q2,q1,.inr ⟨rfl,rfl⟩⟩
         ·exact⟨M,by simp[Instr.sliceBounds,e1 rc hcr,e2 M (Nat.le_refl _),e3 hb (Nat.le_refl _)],q3,q2,q1,.inr ⟨rfl,rfl⟩⟩
        obtain⟨k3,hk,hlh,hhM,hMc,Kk⟩:=key
        have oY:=NU (a:=some ra) hu hi hk
        have place:k3-lb=0∨((if k3=lb then some ra else (some ra).map (·.add (lb*i.size)))=some (⟨lc.rb,lc.base+(o+lb*i.size),none⟩:Addr)∧lc.base+(o+lb*i.size)+(k3-lb)*lc.fJ≤lc.O6):=by
         by_cases hz:k3-lb=0
         ·exact .inl hz
         ·right
          have hk3:k3≤rc:=by rcases Kk with⟨_,rfl,_⟩ | ⟨_,rfl⟩<;>omega
          rcases ha with ha | ⟨rfl,ha⟩
          ·omega
          ·rw[if_neg (by omega)]
           refine⟨by simp[Addr.add_lit,Nat.add_assoc],?_⟩
           rw[g1] at ha ⊢
           have e1:(k3-lb)*i.size=k3*i.size-lb*i.size:=Nat.sub_mul _ _ _
           have e2:lb*i.size≤k3*i.size:=Nat.mul_le_mul_right _ (by omega)
           have e3:k3*i.size≤rc*i.size:=Nat.mul_le_mul_right _ hk3
           omega
        obtain⟨ra',aoQ⟩:∃ra',(if k3=lb then some ra else (some ra).map (·.add (lb*i.size)))=some ra':=by split<;>exact⟨_,rfl⟩
        rw[aoQ] at oY
        have akA:k3-lb=0∨(ra'=⟨lc.rb,lc.base+(o+lb*i.size),none⟩∧lc.base+(o+lb*i.size)+(k3-lb)*lc.fJ≤lc.O6):=by
         rcases place with hp | ⟨hp1,hp2⟩
         ·exact .inl hp
         ·rw[aoQ] at hp1
          exact .inr ⟨by injection hp1,hp2⟩
        split at hs
        ·rename_i axC
         cases hs
         obtain⟨apF,hMl⟩:=axC
         rcases Kk with⟨rfl,_⟩ | ⟨_,rfl⟩
         ·cases apF
         ·have hA:=XZ hR (hf H.length (Nat.le_refl _) (by simp)) T9 i.size
          refine cM.value (rv := .slice (some ra') 0 0) (by rw[oY];congr 2<;>omega) ?_ hA.1 (hA.2 lo)
          exact .slice _ 0 0 0 _ _ 0 (bR m _ _) (Nat.le_refl _) (Nat.le_refl _) (fun _=>rfl) (.inl rfl)
        ·cases hs
         refine cM.value oY ?_ hR (Trans.refl lo m H w)
         refine .slice b _ _ _ lc _ _ T9 (by omega) ?_ ?_ akA
         ·rcases Kk with⟨_,rfl,rfl⟩ | ⟨_,rfl⟩<;>omega
         ·intro ho
          have:=hxp ho
          rcases Kk with⟨_,rfl,rfl⟩ | ⟨_,rfl⟩<;>omega
    ·cases hs
   ·cases hs
 ·cases hs
end
end Go.PM
namespace Go.PM
section
variable {P:Program} {m:dE} {L0:Nat} {H:aE} {w:World}
theorem TU {t:TypeId} {i:TypeInfo} {lo b o:Nat} {v r rp:Value} {H':aE} (hi:P.info? t=some i) (hp:RV m (.pointer (some ⟨b,o,none⟩)) rp) (hv:RV m v r) (hs:(aM v).length=i.size)
  (hw:H.write lo b o (aM v)=some H') (hR:Rel m L0 H w) (eQ:L0≤lo) :
  cM P (do Instr.storeAt t rp r;pure .skip) L0 lo m H w undef H':=by
 cases hp with
 |
  ptr _ _ l hm =>
  obtain⟨w',s1,s2,s3⟩:=DJ P hR eQ hm hw hv.aM
  refine⟨undef,w',m,.inr ⟨?_,rfl⟩,RV.undef m,s2,s3⟩
  have Ck:r.cells.size=i.size:=by rw[eW,←hv.aM.1,hs]
  have h1:(Instr.storeAt t (.pointer (some ⟨l.rb,l.base+o,none⟩)) r).run P w = .ok () w':=by
   show (storeVar t ⟨l.rb,l.base+o,none⟩ r).run P w=_
   unfold storeVar
   simp only[Sem.run_bind,run_sizeOf t i hi,Result.andThen_ok,Ck,ne_eq,not_true_eq_false,if_false,fQ]
   exact s1
  rw[Sem.run_bind,h1]
  rfl
theorem Hw {pv rv:Value} {k:Nat} (h:rJ pv=some k) (hr:RV m pv rv):Builtin.lenOf rv=pure k:=by
 unfold rJ at h
 split at h
 ·cases h;cases hr<;>rfl
 ·cases h;cases hr;rfl
 ·cases h
theorem B9 (a b:Array Value) (xs:List Value) (h:a.toList=xs) (i:Nat) (hi:i<xs.length):(a++b).getD i undef=xs.getD i undef:=by
 subst h
 have:i<a.size:=by simpa using hi
 simp[Array.getD_eq_getD_getElem?,Array.getElem?_append_left this,List.getD_eq_getElem?_getD]
theorem abI {t u ty:TypeId} {agg:Bool} {size bytes lo k:Nat} {z:List Value} {d:TypeDesc} {x y rx ry v:Value} {new:List Value} {H':aE} (ht:jK P t=some (agg,size,z,bytes)) (hu:P.underlying u=some d) (hd:Mg d=true)
  (hk:rJ y=some k) (Am:iQ H size k y=some new) (rE:eJ lo size bytes x k new H=some (v,H')) (hx:RV m x rx) (hy:RV m y ry) (VJ:size=z.length)
  (hR:Rel m L0 H w) (eQ:L0≤lo) (hf:∀b,H.length≤b→b<H'.length→m b=none) :
  cM P (do pure (.value (←Builtin.append_ #[t,u] ty #[rx,ry]))) L0 lo m H w v H':=by
 obtain⟨e,IQ,OU⟩:=iS ht
 obtain⟨i,de,zz,hi,_,Ha,rfl,rfl,rfl,rfl⟩:=iI OU
 obtain⟨pH,h1,h2,h3⟩:=I5 Am hk (Nat.le_refl _) hR hy
 have hl:=Hw hk hy
 have Ee:1≤i.bytes:=by
  unfold eJ at rE
  split at rE
  ·rename_i h;exact h.1
  ·cases rE
 have hnl:new.length=k*i.size:=by
  unfold eJ at rE
  split at rE
  ·rename_i h;exact h.2.2.2
  ·cases rE
 obtain⟨rv,w',m',g1,g2,g3,g4⟩:=I4 (P:=P) (s:=Builtin.append_ #[t,u] ty #[rx,ry]) (e:=e) rE hR eQ hx h1 hf
  (fun a n c w' Jx Cb HX=>by
   subst Jx
   exact Pm IQ hu hd hi hl (h3 w rfl) Cb HX)
  (fun Jx hk0=>by
   subst Jx
   subst hk0
   exact PX IQ hu hd hi hl (h3 w rfl))
  (fun base n c Cl Jx YR iO hg hb=>by
   subst Jx
   refine⟨grownCap w (n+k) c e,_,grownCap_ge w _ _ _,Pq IQ hu hd hi Ha hl YR (h3 w.drew rfl) hg Ee hb,?_,?_⟩
   ·have Ch:=grownCap_ge w (n+k) c e
    have Cp:pH.length=k*i.size:=by rw[←h1.1,hnl]
    simp only[Array.size_append,List.size_toArray,size_zeroCells,iO,Cp]
    rw[←eW] at VJ
    rw[←VJ,←Nat.add_mul,←Nat.add_mul]
    congr 1
    omega
   ·intro j hj
    exact B9 _ _ _ (by simp) j hj)
 exact cM.value g1 g2 g3 g4
section
variable {t u ty e:TypeId} {ku:IntKind} {i:TypeInfo} {zz:Value} {k:Nat}
theorem GR {k:Nat} (h:k≤140737488355328):IntKind.i64.wrap (k:Int)=(k:Int):=by rw[IntKind.wrap_i64];omega
theorem Mt (ht:P.underlying t=some (.slice e)) (hu:P.underlying u=some (.int ku)) (hi:P.info? e=some i) (Ha:i.zero=some zz) (hk:k≤140737488355328) (T3:k*i.bytes≤140737488355328)
  {a:Addr} {n c:Nat} {w':World} (Cb:n+k≤c) (hz:k*i.size=0→Builtin.zeroCells zz.cells k = #[]) (HX:(storeCells (a.add (n*i.size)) (Builtin.zeroCells zz.cells k).toList).run P w = .ok () w') :
  (Builtin.append_ #[t,u] ty #[.slice (some a) n c,.int .i64 k]).run P w = .ok (.slice (some a) (n+k) c) w':=by
 have h0:¬((k:Int)<0):=by omega
 have hb:¬(281474976710656<(k:Int)*(i.bytes:Int)):=by rw[←Int.natCast_mul];omega
 by_cases D4:k*i.size=0
 ·rw[hz D4] at HX
  simp[Builtin.append_,run_underlying ht,run_underlying hu,run_sizeOf e i hi,asInt,asIntOf,GR hk,typeInfo,hi,h0,hb,Cb,D4,HX]
 ·simp[Builtin.append_,run_underlying ht,run_underlying hu,run_sizeOf e i hi,asInt,asIntOf,GR hk,typeInfo,hi,h0,hb,Cb,D4,zeroValue,Ha,HX]
theorem Pw (ht:P.underlying t=some (.slice e)) (hu:P.underlying u=some (.int ku)) (hi:P.info? e=some i) :
  (Builtin.append_ #[t,u] ty #[.slice none 0 0,.int .i64 (0:Nat)]).run P w = .ok (.slice none 0 0) w:=by
 have hw:IntKind.i64.wrap 0=0:=rfl
 simp[Builtin.append_,run_underlying ht,run_underlying hu,run_sizeOf e i hi,asInt,asIntOf,hw,typeInfo,hi]
theorem MI (ht:P.underlying t=some (.slice e)) (hu:P.underlying u=some (.int ku)) (hi:P.info? e=some i) (Ha:i.zero=some zz) (hk:k≤140737488355328) (T3:k*i.bytes≤140737488355328)
  {base:Option Addr} {n c:Nat} {Cl:List Value} (YR:(Builtin.firstCells i.size n (.slice base n c)).run P w.drew = .ok Cl.toArray w.drew) (hz:k*i.size=0→Builtin.zeroCells zz.cells k = #[])
  (hg:c<n+k) (Ee:1≤i.bytes) (J8:(n+k)*i.bytes≤140737488355328) :
  (Builtin.append_ #[t,u] ty #[.slice base n c,.int .i64 k]).run P w = .ok (.slice (some ⟨w.heap.size,0,none⟩) (n+k) (grownCap w (n+k) c e))
   (w.drew.alloc (.cells (Cl.toArray++Builtin.zeroCells zz.cells k++Builtin.zeroCells zz.cells (grownCap w (n+k) c e-(n+k))) e)):=by
 have qK:=growslice_fits (bytes:=i.bytes) hg J8
 have h0:¬((k:Int)<0):=by omega
 have hb:¬(281474976710656<(k:Int)*(i.bytes:Int)):=by rw[←Int.natCast_mul];omega
 have h1:¬(n+k≤c):=by omega
 have h2:¬(281474976710656<Builtin.nextslicecap (n+k) c*i.bytes):=by omega
 have h4:n+k≤140737488355328:=Nat.le_trans (Nat.le_mul_of_pos_right _ Ee) J8
 have h3:¬(9223372036854775807<(n:Int)+(k:Int)):=by omega
 by_cases D4:k*i.size=0
 ·have e0:=hz D4
  simp[Builtin.append_,run_underlying ht,run_underlying hu,run_sizeOf e i hi,asInt,asIntOf,GR hk,typeInfo,hi,h0,hb,h1,h2,h3,e0,zeroValue,Ha,Question.forced,YR,newRow,grownCap]
 ·simp[Builtin.append_,run_underlying ht,run_underlying hu,run_sizeOf e i hi,asInt,asIntOf,GR hk,typeInfo,hi,h0,hb,h1,h2,h3,D4,zeroValue,Ha,Question.forced,YR,newRow,grownCap]
end
theorem Ye {t u ty:TypeId} {agg:Bool} {size bytes lo:Nat} {z:List Value} {ku:IntKind} {n:Int} {x rx v:Value} {H':aE} (ht:jK P t=some (agg,size,z,bytes)) (hu:P.underlying u=some (.int ku))
  (hn:0≤n∧n*bytes≤140737488355328) (rE:eJ lo z.length bytes x n.toNat (cU n.toNat z) H=some (v,H')) (hx:RV m x rx) (VJ:size=z.length) (Ih:z.all fO=true) (SC:z.all jW=true) (D4:1≤z.length)
  (hR:Rel m L0 H w) (eQ:L0≤lo) (hf:∀b,H.length≤b→b<H'.length→m b=none) :
  cM P (do pure (.value (←Builtin.append_ #[t,u] ty #[rx,.int .i64 n]))) L0 lo m H w v H':=by
 obtain⟨e,IQ,OU⟩:=iS ht
 obtain⟨i,de,zz,hi,_,Ha,rfl,rfl,rfl,rfl⟩:=iI OU
 obtain⟨k,rfl⟩:=Int.eq_ofNat_of_zero_le hn.1
 simp only[Int.toNat_natCast] at rE
 have Ee:1≤i.bytes:=by
  unfold eJ at rE
  split at rE
  ·rename_i h;exact h.1
  ·cases rE
 have T3:k*i.bytes≤140737488355328:=by have:=hn.2;omega
 have hk:k≤140737488355328:=Nat.le_trans (Nat.le_mul_of_pos_right _ Ee) T3
 have Ck:i.size=zz.cells.size:=by rw[VJ,eW]
 have XH:1≤zz.cells.size:=by rw[eW];exact D4
 have rO:(Builtin.zeroCells zz.cells k).toList=cU k (aM zz):=by rw[FJ _ _ XH,fQ]
 have aqV:k*i.size=0→Builtin.zeroCells zz.cells k = #[]:=by
  intro h0
  apply Array.ext'
  rw[rO]
  exact List.eq_nil_of_length_eq_zero (by rw[tW,←VJ];exact h0)
 obtain⟨rv,w',m',g1,g2,g3,g4⟩:=I4 (P:=P) (s:=Builtin.append_ #[t,u] ty #[rx,.int .i64 k]) (e:=e) (pH:=cU k (aM zz)) rE hR eQ hx (vN k SC D4) hf
  (fun a n c w' Jx Cb HX=>by
   subst Jx
   exact Mt IQ hu hi Ha hk T3 Cb aqV (by rw[rO,VJ];exact HX))
  (fun Jx hk0=>by
   subst Jx
   subst hk0
   exact Pw IQ hu hi)
  (fun base n c Cl Jx YR iO hg hb=>by
   subst Jx
   refine⟨grownCap w (n+k) c e,_,grownCap_ge w _ _ _,MI IQ hu hi Ha hk T3 (by rw[VJ];exact YR) aqV hg Ee hb,?_,?_⟩
   ·have Ch:=grownCap_ge w (n+k) c e
    simp only[Array.size_append,List.size_toArray,size_zeroCells,iO,eW]
    rw[←Nat.add_mul,←Nat.add_mul]
    congr 1
    omega
   ·intro j hj
    exact B9 _ _ _ (by simp[rO]) j hj)
 exact cM.value g1 g2 g3 g4
theorem X6 {t ty:TypeId} {ts:List TypeId} {agg:Bool} {size bytes lo b o d c k:Nat} {z new:List Value} {y rx ry:Value} {H':aE} (ht:jK P t=some (agg,size,z,bytes))
  (hk:rJ y=some k) (Am:iQ H size (Nat.min k d) y=some new) (hw:H.write lo b o new=some H') (hx:RV m (.slice (some ⟨b,o,none⟩) d c) rx) (hy:RV m y ry)
  (hR:Rel m L0 H w) (eQ:L0≤lo) :
  cM P (do pure (.value (←Builtin.copy_ (t::ts).toArray ty #[rx,ry]))) L0 lo m H w (.int .i64 (Nat.min k d)) H':=by
 obtain⟨e,IQ,OU⟩:=iS ht
 obtain⟨i,de,zz,hi,_,Ha,rfl,rfl,rfl,rfl⟩:=iI OU
 obtain⟨pH,h1,h2,h3⟩:=I5 (P:=P) Am hk (Nat.min_le_left _ _) hR hy
 have hl:=Hw hk hy
 cases hx with
 |
  slice _ _ _ _ l ra rc hm hn hc hxp ha =>
  rcases ha with ha | ⟨rfl,ha⟩
  ·have C4:d=0:=by omega
   subst C4
   have agG:Nat.min k 0=0:=Nat.min_zero k
   rw[agG] at Am h3 ⊢
   have rO:new=[]:=by
    have:pH.length=new.length:=h1.1.symm
    unfold iQ at Am
    split at Am
    ·obtain⟨_,_,_,_,_,_,hlen⟩:=NH Am
     exact List.eq_nil_of_length_eq_zero (by simpa using hlen)
    ·split at Am
     ·cases Am;rfl
     ·cases Am
    ·split at Am
     ·cases Am;simp
     ·cases Am
    ·cases Am
   subst rO
   have hrn:pH=[]:=List.eq_nil_of_length_eq_zero h1.1.symm
   subst hrn
   have hHH:H'=H:=by
    obtain⟨cs,e',p',q1,q2,q3,q4,rfl⟩:=Bz hw
    apply List.ext_getElem?
    intro j
    by_cases hj:b=j
    ·subst hj
     rw[List.getElem?_set_self (List.getElem?_eq_some_iff.1 q1).1,q1]
     simp[iH]
    ·rw[List.getElem?_set_ne hj]
   rw[hHH]
   refine cM.value (rv := .int .i64 0) (w':=w) ?_ (.int _ _) hR (Trans.refl lo m _ w)
   have hf0:=h3 w rfl
   simp[Builtin.copy_,run_underlying IQ,hl,run_sizeOf e i hi,goInt,hf0,storeCells]
  ·obtain⟨w',s1,s2,s3⟩:=DJ P hR eQ hm hw h1
   refine cM.value (rv := .int .i64 (Nat.min k d)) ?_ (.int _ _) s2 s3
   have hf0:=h3 w rfl
   unfold Builtin.copy_
   simp only[List.getElem?_toArray,List.getElem?_cons_zero,List.getElem?_cons_succ,Sem.run_bind,run_underlying IQ,Result.andThen_ok,hl,Sem.run_pure,run_sizeOf e i hi]
   rw[hf0]
   simp only[Result.andThen_ok,s1,goInt]
theorem TH {t ty e:TypeId} {ts:List TypeId} {i:TypeInfo} {zz:Value} {lo b o n c:Nat} {rx:Value} {H':aE} (IQ:P.underlying t=some (.slice e)) (hi:P.info? e=some i) (Ha:i.zero=some zz)
  (YC:n≠0) (hw:H.write lo b o (cU n (aM zz))=some H') (hx:RV m (.slice (some ⟨b,o,none⟩) n c) rx) (SC:(aM zz).all jW=true) (D4:1≤(aM zz).length) (hR:Rel m L0 H w) (eQ:L0≤lo) :
  cM P (do pure (.value (←Builtin.clear_ (t::ts).toArray ty #[rx]))) L0 lo m H w undef H':=by
 cases hx with
 |
  slice _ _ _ _ l ra rc hm hn hc hxp ha =>
  rcases ha with ha | ⟨rfl,ha⟩
  ·omega
  ·obtain⟨w',s1,s2,s3⟩:=DJ P hR eQ hm hw (vN n SC D4)
   have rO:(Builtin.zeroCells zz.cells n).toList=cU n (aM zz):=by rw[FJ _ _ (by rw[eW];exact D4),fQ]
   refine cM.value (rv:=undef) ?_ (RV.undef m) s2 s3
   rw[←rO] at s1
   obtain⟨n',rfl⟩:∃n',n=n'+1:=⟨n-1,by omega⟩
   simp[Builtin.clear_,run_underlying IQ,zeroValue,typeInfo,hi,Ha,s1,undef]
theorem I0 {t ty e:TypeId} {ts:List TypeId} {lo c:Nat} {a:Option Addr} {rx:Value} (IQ:P.underlying t=some (.slice e)) (hx:RV m (.slice a 0 c) rx) (hR:Rel m L0 H w) :
  cM P (do pure (.value (←Builtin.clear_ (t::ts).toArray ty #[rx]))) L0 lo m H w undef H:=by
 refine cM.value (rv:=undef) (w':=w) ?_ (RV.undef m) hR (Trans.refl lo m _ w)
 cases hx<;>simp[Builtin.clear_,run_underlying IQ,undef]
end
end Go.PM
namespace Go.PM
section
variable {P:Program} {m:dE} {L0:Nat} {H:aE} {w:World}
theorem Db {po:mV} {ρ:Env} {v:Value} {H':aE} (h:(iC po ρ).map (Out.val · H)=some (.val v H')):iC po ρ=some v∧H'=H:=by
 cases hp:iC po ρ with
 | none=>rw[hp] at h;cases h
 | some u=>rw[hp] at h;cases h;exact⟨rfl,rfl⟩
def tD:mV→Bool
 | .load .. | .sub .. | .b2s _ | .new _ | .box _ | .make .. | .lit .. | .call .. | .store .. | .app .. | .appz .. | .copy .. | .clear .. | .callv .. => false
 | _=>true
theorem wZ {lo:Nat} {po:mV} {ρ:Env} (h:tD po=true):pop lo po ρ H=(iC po ρ).map (.val · H):=by
 cases po<;>first | rfl | cases h
theorem Qr {pv rv:Value} {k:Nat} (size:Nat) (h:rJ pv=some k) (hr:RV m pv rv):(Builtin.firstCells size 0 rv).run P w = .ok #[] w:=by
 unfold rJ at h
 split at h
 ·cases hr
  ·rfl
  ·simp only[Builtin.firstCells,Nat.zero_mul]
   rfl
 ·cases hr
  simp[Builtin.firstCells]
 ·cases h
theorem Vf {o:Oper} {po:mV} {ρ:Env} {a:Act} {lo:Nat} {v:Value} {H':aE} (hp:pF P o.op=some po) (hv:pop lo po ρ H=some (.val v H')) (hr:∀x∈o.op.operands,RV m (ev ρ x) (a.eval x))
  (hR:Rel m L0 H w) (eQ:L0≤lo) (hf:∀b,H.length≤b→b<H'.length→m b=none):cM P (execOp a.eval o) L0 lo m H w v H':=by
 by_cases iK:tD po=true
 ·rw[wZ iK] at hv
  obtain⟨h1,rfl⟩:=Db hv
  obtain⟨rv,h2,h3⟩:=ZJ hp h1 hr
  exact⟨rv,w,m,.inl (h3 w),h2,hR,Trans.refl lo m _ w⟩
 obtain⟨dst,op,type,pos,after,guard⟩:=o
 unfold pF at hp
 simp only at hp hr ⊢
 split at hp
 case isFalse=>cases hp
 cases op with
 | move x=>cases hp;exact absurd rfl iK
 | assign x=>cases hp;exact absurd rfl iK
 | pick c x y=>cases hp;exact absurd rfl iK
 |
  binOp op t x y yt =>
  unfold Bk at hp
  simp only at hp
  split at hp
  ·cases hp;exact absurd rfl iK
  ·cases hp;exact absurd rfl iK
  ·split at hp<;>first | (cases hp;done) | (cases hp;exact absurd rfl iK)
  ·split at hp<;>first | (cases hp;done) | (split at hp<;>first | (cases hp;done) | (cases hp;exact absurd rfl iK))
  ·split at hp<;>first | (cases hp;done) | (cases hp;exact absurd rfl iK)
  ·cases hp
 | unOp op t x=>cases hp;exact absurd rfl iK
 | extract x i=>cases hp;exact absurd rfl iK
 |
  convert s d x =>
  have hx:=hr x (by simp[Op.operands])
  simp only at hp
  split at hp
  ·cases hp;exact absurd rfl iK
  ·cases hp;exact absurd rfl iK
  ·rename_i e hs hd
   split at hp
   ·rename_i he
    cases hp
    simp only[pop] at hv
    split at hv
    ·rename_i n c XK
     cases hv
     rw[XK] at hx
     show cM P (do pure (.value (←convert s d (a.eval x)))) L0 lo m H w _ H
     generalize a.eval x=rx at hx ⊢
     cases hx
     refine cM.value (rv := .string ByteArray.empty) ?_ (.str _) hR (Trans.refl lo m _ w)
     simp[convert,run_underlying hs,run_underlying hd,run_underlying he,Conv.bytesToString]
    ·rename_i b o n c XK
     split at hv
     ·rename_i cs NW
      cases hb:tA cs with
      | none=>rw[hb] at hv;cases hv
      |
       some bs =>
       rw[hb] at hv
       cases hv
       rw[XK] at hx
       exact aaH hs hd he NW hb hR hx
     ·cases hv
    ·cases hv
   ·cases hp
  ·cases hp
 |
  field t x i =>
  simp only at hp
  split at hp
  ·split at hp
   ·rename_i f hf'
    cases ht:lM P f.type with
    | none=>rw[ht] at hp;cases hp
    | some q=>rw[ht] at hp;cases hp;exact absurd rfl iK
   ·cases hp
  ·cases hp
 |
  build t parts =>
  simp only at hp
  split at hp
  ·split at hp
   ·split at hp
    ·cases hp;exact absurd rfl iK
    ·cases hp
   ·cases hp
  ·cases hp
 | nilCheck x=>cases hp;exact absurd rfl iK
 |
  fieldAddr t x i =>
  simp only at hp
  split at hp
  ·split at hp
   ·split at hp
    ·split at hp
     ·cases hp
     ·cases hp;exact absurd rfl iK
    ·cases hp
   ·cases hp
  ·cases hp
 |
  indexAddr t x i =>
  simp only at hp
  cases ht:jK P t with
  | none=>rw[ht] at hp;cases hp
  | some q=>rw[ht] at hp;cases hp;exact absurd rfl iK
 |
  index t x i =>
  simp only at hp
  split at hp
  ·cases hp;exact absurd rfl iK
  ·cases hp
 |
  slice t x jI hi mx =>
  have hx:=hr x (by simp[Op.operands])
  simp only at hp
  split at hp
  ·split at hp
   ·cases hp;exact absurd rfl iK
   ·cases hp
  ·rename_i e hu
   cases ht:lM P e with
   | none=>rw[ht] at hp;cases hp
   |
    some q =>
    obtain⟨agg,size,z,nb⟩:=q
    rw[ht] at hp
    cases hp
    obtain⟨i,d,zz,oJ,_,_,rfl,rfl,rfl,rfl⟩:=iI ht
    simp only[pop] at hv
    cases hs:Cf i.size (ev ρ x) (jI.map (ev ρ)) (hi.map (ev ρ)) (mx.map (ev ρ)) H with
    | none=>rw[hs] at hv;cases hv
    |
     some q =>
     obtain⟨u,H1⟩:=q
     rw[hs] at hv
     cases hv
     exact YH hu oJ hs hx (RO.map fun y hy=>hr y (by simp[Op.operands,hy])) (RO.map fun y hy=>hr y (by simp[Op.operands,hy])) (RO.map fun y hy=>hr y (by simp[Op.operands,hy])) hR hf
  ·cases hp
 |
  makeFunc fn first fN =>
  cases fn with
  |
   func f =>
   simp only at hp
   split at hp
   ·cases hp;exact absurd rfl iK
   ·cases hp
  | _=>cases hp
 | makeInterface t x=>cases hp;exact absurd rfl iK
 | panic x=>cases hp;exact absurd rfl iK
 |
  load t p =>
  have hx:=hr p (by simp[Op.operands])
  simp only at hp
  cases ht:lM P t with
  | none=>rw[ht] at hp;cases hp
  |
   some q =>
   obtain⟨agg,size,z,nb⟩:=q
   rw[ht] at hp
   cases hp
   simp only[pop] at hv
   cases hl:nK agg size (ev ρ p) H with
   | none=>rw[hl] at hv;cases hv
   |
    some u =>
    rw[hl] at hv
    cases hv
    obtain⟨rv,h1,h2⟩:=NR ht hl hR hx
    exact cM.value h2 h1 hR (Trans.refl lo m _ w)
 |
  store t p x =>
  have hpp:=hr p (by simp[Op.operands])
  have hx:=hr x (by simp[Op.operands])
  simp only at hp
  cases ht:P.info? t with
  | none=>rw[ht] at hp;cases hp
  |
   some i =>
   rw[ht] at hp
   cases hp
   simp only[pop] at hv
   split at hv
   ·rename_i b o hpo
    split at hv
    ·rename_i hs
     cases hw:H.write lo b o (aM (ev ρ x)) with
     | none=>rw[hw] at hv;cases hv
     |
      some H1 =>
      rw[hw] at hv
      cases hv
      rw[hpo] at hpp
      exact TU ht hpp hx hs hw hR eQ
    ·cases hv
   ·cases hv
 |
  alloc t =>
  simp only at hp
  split at hp
  ·rename_i agg size z nb ht
   split at hp
   ·rename_i hz
    cases hp
    simp only[Bool.and_eq_true] at hz
    cases hv
    exact ZG ht hz.1 hz.2 hR (hf _ (Nat.le_refl _) (by simp))
   ·cases hp
  ·cases hp
 |
  box t x =>
  have hx:=hr x (by simp[Op.operands])
  cases hp
  simp only[pop] at hv
  split at hv
  ·rename_i hs
   cases hv
   exact Zy hx hs hR (hf _ (Nat.le_refl _) (by simp))
  ·cases hv
 |
  makeSlice t l c =>
  have hl:=hr l (by simp[Op.operands])
  have hc:=hr c (by simp[Op.operands])
  simp only at hp
  split at hp
  ·rename_i agg size z nb ht
   split at hp
   ·rename_i hz
    cases hp
    simp only[Bool.and_eq_true,beq_iff_eq,decide_eq_true_eq] at hz
    obtain⟨⟨⟨z1,z2⟩,z3⟩,z4⟩:=hz
    simp only[pop] at hv
    split at hv
    ·rename_i l' c' Bf YV
     split at hv
     ·rename_i hb
      cases hv
      rw[Bf] at hl
      rw[YV] at hc
      show cM P (do pure (.value (←Instr.makeSlice t (a.eval l) (a.eval c)))) L0 lo m H w _ _
      generalize a.eval l=rl at hl ⊢
      generalize a.eval c=rc at hc ⊢
      cases hl
      cases hc
      exact Wu ht z1 z2 z3 z4 hb.1 hb.2.1 hb.2.2.1 hb.2.2.2 hR (hf _ (Nat.le_refl _) (by simp))
     ·cases hv
    ·cases hv
   ·cases hp
  ·cases hp
 |
  buildSlice t n parts =>
  simp only at hp
  split at hp
  ·rename_i agg size z nb ht
   split at hp
   ·rename_i hz
    cases hp
    simp only[Bool.and_eq_true,beq_iff_eq,decide_eq_true_eq] at hz
    obtain⟨⟨⟨⟨z1,z2⟩,z3⟩,z4⟩,z5⟩:=hz
    simp only[pop] at hv
    split at hv
    ·rename_i cs NW
     split at hv
     ·rename_i uN
      cases hv
      have:=Y1 (P:=P) (w:=w) (lo:=lo) (a:=a) ht z1 z2 z3 z4 z5 NW uN (fun p hpm=>hr p.2 (by simp only[Op.operands];simp;exact⟨p.1,by simpa using hpm⟩)) hR (hf _ (Nat.le_refl _) (by simp))
      rw[Array.toArray_toList] at this
      exact this
     ·cases hv
    ·cases hv
   ·cases hp
  ·cases hp
 |
  call c =>
  obtain⟨callee,args,ts⟩:=c
  cases callee with
  |
   builtin b =>
   have SD:∀x∈args,RV m (ev ρ x) (a.eval x):=fun x hx=>hr x (by simpa[Op.operands,Call.operands] using hx)
   simp only at hp
   unfold oA at hp
   split at hp
   ·split at hp<;>first | (cases hp;done) | (cases hp;exact absurd rfl iK)
   ·split at hp<;>first | (cases hp;done) | (cases hp;exact absurd rfl iK)
   ·cases hp;exact absurd rfl iK
   ·cases hp;exact absurd rfl iK
   ·rename_i x y t u CI xU hts _
    have ea:args = #[x,y]:=Array.toList_inj.1 (by simpa using xU)
    subst ea
    have hx:=SD x (by simp)
    have hy:=SD y (by simp)
    have avN:∃tr,ts=(t::u::tr).toArray:=⟨CI,Array.toList_inj.1 (by simpa using hts)⟩
    obtain⟨tr,rfl⟩:=avN
    show cM P (do pure (.value (←Builtin.append_ (t::u::tr).toArray type ((#[x,y]:Array Operand).map a.eval)))) L0 lo m H w v H'
    rw[JZ]
    have auQ:∀r1 r2,Builtin.append_ (t::u::tr).toArray type #[r1,r2]=Builtin.append_ #[t,u] type #[r1,r2]:=fun r1 r2=>by simp[Builtin.append_]
    rw[auQ]
    split at hp
    ·rename_i agg size zero bytes ku ht hu
     split at hp
     ·rename_i hz
      cases hp
      simp only[Bool.and_eq_true,beq_iff_eq,decide_eq_true_eq] at hz
      obtain⟨⟨⟨z1,z2⟩,z3⟩,z4⟩:=hz
      simp only[pop] at hv
      split at hv
      ·rename_i n hn
       split at hv
       ·rename_i hb
        cases rE:eJ lo zero.length bytes (ev ρ x) n.toNat (cU n.toNat zero) H with
        | none=>rw[rE] at hv;cases hv
        |
         some q =>
         obtain⟨u',H1⟩:=q
         rw[rE] at hv
         cases hv
         rw[hn] at hy
         generalize a.eval y=ry at hy ⊢
         cases hy
         exact Ye ht hu hb rE hx z4 z1 z2 z3 hR eQ hf
       ·cases hv
      ·cases hv
     ·cases hp
    ·rename_i agg size zero bytes d _ ht hu
     split at hp
     ·rename_i hd
      split at hp
      ·rename_i VJ
       cases hp
       simp only[pop] at hv
       split at hv
       ·rename_i k hk
        split at hv
        ·rename_i new rO
         cases rE:eJ lo size bytes (ev ρ x) k new H with
         | none=>rw[rE] at hv;cases hv
         |
          some q =>
          obtain⟨u',H1⟩:=q
          rw[rE] at hv
          cases hv
          exact abI ht hu hd hk rO rE hx hy (by simpa using VJ) hR eQ hf
        ·cases hv
       ·cases hv
      ·cases hp
     ·cases hp
    ·cases hp
   ·rename_i x y t CI xU hts _
    have ea:args = #[x,y]:=Array.toList_inj.1 (by simpa using xU)
    have et:ts=(t::CI).toArray:=Array.toList_inj.1 (by simpa using hts)
    subst ea;subst et
    have hx:=SD x (by simp)
    have hy:=SD y (by simp)
    show cM P (do pure (.value (←Builtin.copy_ (t::CI).toArray type ((#[x,y]:Array Operand).map a.eval)))) L0 lo m H w v H'
    rw[JZ]
    split at hp
    ·rename_i agg size zero bytes ht
     cases hp
     simp only[pop] at hv
     split at hv
     ·rename_i n c k XK hk
      cases hv
      rw[XK] at hx
      generalize a.eval x=rx at hx ⊢
      cases hx
      obtain⟨e,IQ,OU⟩:=iS ht
      obtain⟨i,de,zz,hi,_,Ha,_,_,_,_⟩:=iI OU
      refine cM.value (rv := .int .i64 0) (w':=w) ?_ (.int _ _) hR (Trans.refl lo m _ w)
      have hl:=Hw hk hy
      have hf0:=Qr (P:=P) (w:=w) i.size hk hy
      simp[Builtin.copy_,run_underlying IQ,hl,run_sizeOf e i hi,goInt,hf0]
     ·rename_i b o d c k XK hk
      split at hv
      ·rename_i new rO
       cases hw:H.write lo b o new with
       | none=>rw[hw] at hv;cases hv
       |
        some H1 =>
        rw[hw] at hv
        cases hv
        rw[XK] at hx
        exact X6 ht hk rO hw hx hy hR eQ
      ·cases hv
     ·cases hv
    ·cases hp
   ·rename_i x t CI xU hts _
    have ea:args = #[x]:=Array.toList_inj.1 (by simpa using xU)
    have et:ts=(t::CI).toArray:=Array.toList_inj.1 (by simpa using hts)
    subst ea;subst et
    have hx:=SD x (by simp)
    show cM P (do pure (.value (←Builtin.clear_ (t::CI).toArray type ((#[x]:Array Operand).map a.eval)))) L0 lo m H w v H'
    rw[Pb]
    split at hp
    ·rename_i agg size zero bytes ht
     split at hp
     ·rename_i hz
      cases hp
      simp only[Bool.and_eq_true,beq_iff_eq,decide_eq_true_eq] at hz
      obtain⟨⟨⟨z1,z2⟩,z3⟩,z4⟩:=hz
      obtain⟨e,IQ,OU⟩:=iS ht
      obtain⟨i,de,zz,hi,_,Ha,rfl,rfl,rfl,rfl⟩:=iI OU
      simp only[pop] at hv
      split at hv
      ·rename_i n c XK
       cases hv
       rw[XK] at hx
       generalize a.eval x=rx at hx ⊢
       cases hx
       exact I0 IQ .MK hR
      ·rename_i b o n c XK
       rw[XK] at hx
       split at hv
       ·rename_i YC
        cases hv
        subst YC
        exact I0 IQ hx hR
       ·rename_i YC
        cases hw:H.write lo b o (cU n (aM zz)) with
        | none=>rw[hw] at hv;cases hv
        |
         some H1 =>
         rw[hw] at hv
         cases hv
         exact TH IQ hi Ha YC hw hx z2 z4 hR eQ
      ·cases hv
     ·cases hp
    ·cases hp
   ·cases hp
  |
   value f =>
   cases f with
   | func g=>cases hp;cases hv
   |
    tmp t =>
    cases hp
    simp only[pop] at hv
    split at hv<;>cases hv
   | const c=>cases hp
   | global g=>cases hp
  | invoke r s=>cases hp
 | _=>cases hp
def Me (P:Program) (f:Nat):Prop:=∃fn,P.funcs[f]? = some fn∧(fn.name == "runtime.NumGoroutine")=false∧fn.body.isNone=false
theorem Gh {f:Nat} {args:Array Value} (h:Me P f):(callFunc f args).run P w = .ok (.enter f args) w:=by
 obtain⟨fn,h1,h2,h3⟩:=h
 unfold callFunc
 rw[Sem.run_bind,run_program,Result.andThen_ok,h1]
 simp[h2,h3]
theorem map_none {α β:Type} {o:Option α} {f:α→β} {x:β} (h:o.map f=some x) (hf:∀y,f y≠x):False:=by
 cases o with
 | none=>cases h
 | some y=>injection h with h;exact hf y h
theorem Xd {op:Op} {g:Nat} {as:List Operand} (h:pF P op=some (.call g as)):∃args ts,op = .call ⟨.value (.func g),args,ts⟩∧as=args.toList:=by
 unfold pF at h
 split at h
 case isFalse=>cases h
 cases op with
 |
  call c =>
  obtain⟨callee,args,ts⟩:=c
  cases callee with
  |
   builtin b =>
   exfalso
   simp only[oA] at h
   repeat' (split at h)
   all_goals cases h
  |
   value f =>
   cases f with
   | func g'=>cases h;exact⟨args,ts,rfl,rfl⟩
   | _=>cases h
  | invoke r s=>cases h
 |
  _ =>
  exfalso
  dsimp only at h
  try unfold Bk at h
  repeat' (split at h)
  all_goals first
   | contradiction
   | (cases h;done)
   | exact map_none h (by intro y h;cases h)
theorem Tg {op:Op} {fv:Operand} {as:List Operand} (h:pF P op=some (.callv fv as)):∃args ts,op = .call ⟨.value fv,args,ts⟩∧as=args.toList:=by
 unfold pF at h
 split at h
 case isFalse=>cases h
 cases op with
 |
  call c =>
  obtain⟨callee,args,ts⟩:=c
  cases callee with
  |
   builtin b =>
   exfalso
   simp only[oA] at h
   repeat' (split at h)
   all_goals cases h
  |
   value f =>
   cases f with
   | tmp g'=>cases h;exact⟨args,ts,rfl,rfl⟩
   | _=>cases h
  | invoke r s=>cases h
 |
  _ =>
  exfalso
  dsimp only at h
  try unfold Bk at h
  repeat' (split at h)
  all_goals first
   | contradiction
   | (cases h;done)
   | exact map_none h (by intro y h;cases h)
theorem sB {po:mV} {ρ:Env} {lo f:Nat} {args:List Value} (hv:pop lo po ρ H=some (.call f args)):(∃g as,po = .call g as)∨(∃g as,po = .callv g as):=by
 by_cases iK:tD po=true
 ·rw[wZ iK] at hv
  cases hpp:iC po ρ with
  | none=>rw[hpp] at hv;cases hv
  | some u=>rw[hpp] at hv;cases hv
 cases po<;>first | exact absurd rfl iK | exact .inl ⟨_,_,rfl⟩ | exact .inr ⟨_,_,rfl⟩ | skip
 all_goals
  exfalso
  simp only[pop] at hv
  repeat' (split at hv)
  all_goals first
   | (cases hv;done)
   | (revert hv;generalize aE.write _ _ _ _ _=q;cases q<;>intro hv<;>cases hv)
   | (revert hv;generalize nK _ _ _ _=q;cases q<;>intro hv<;>cases hv)
   | (revert hv;generalize Cf _ _ _ _ _ _=q;cases q<;>intro hv<;>cases hv)
   | (revert hv;generalize eJ _ _ _ _ _ _ _=q;cases q<;>intro hv<;>cases hv)
   | (revert hv;generalize tA _=q;cases q<;>intro hv<;>cases hv)
theorem WG {o:Oper} {po:mV} {ρ:Env} {a:Act} {lo f:Nat} {args:List Value} (hp:pF P o.op=some po) (hv:pop lo po ρ H=some (.call f args)) (hr:∀x∈o.op.operands,RV m (ev ρ x) (a.eval x)) :
  ∃gI,RL m args gI∧(Me P f→∀w,(execOp a.eval o).run P w = .ok (.enter f gI.toArray) w):=by
 have key:=sB hv
 obtain⟨dst,op,type,pos,after,guard⟩:=o
 simp only at hp hr ⊢
 rcases key with⟨g,as,rfl⟩ | ⟨g,as,rfl⟩
 ·obtain⟨B6,ts,rfl,rfl⟩:=Xd hp
  cases hv
  refine⟨B6.toList.map a.eval,RL.map fun x hx=>hr x (by simp[Op.operands,Call.operands];right;simpa using hx),fun hc w => ?_⟩
  have e1:(B6.toList.map a.eval).toArray=B6.map a.eval:=Array.toList_inj.1 (by rw[Array.toList_map])
  rw[e1]
  have e2:execOp a.eval ⟨dst,.call ⟨.value (.func f),B6,ts⟩,type,pos,after,guard⟩=callFunc f ((#[]++B6.map a.eval) ++ #[]):=rfl
  rw[e2,Gh hc]
  simp
 ·obtain⟨B6,ts,rfl,rfl⟩:=Tg hp
  have hg:=hr g (by simp[Op.operands,Call.operands])
  simp only[pop] at hv
  split at hv
  ·rename_i f' first fN hfv
   cases hv
   rw[hfv] at hg
   generalize hrg:a.eval g=rg at hg
   cases hg with
   |
    func fn f1 g1 c1 d1 h1 h2 h3 h4 =>
    refine⟨g1.toList++B6.toList.map a.eval++d1.toList,((RL.arr h1 h2).append (RL.map fun x hx=>hr x (by simp[Op.operands,Call.operands];right;simpa using hx))).append (RL.arr h3 h4),fun hc w => ?_⟩
    have e1:(g1.toList++B6.toList.map a.eval++d1.toList).toArray=(g1++B6.map a.eval)++d1:=by
     apply Array.ext'
     simp
    rw[e1]
    have e2:(execOp a.eval ⟨dst,.call ⟨.value g,B6,ts⟩,type,pos,after,guard⟩)=(do let d ←Deferred.ofValue (a.eval g) (B6.map a.eval);invoke d.target d.args):=rfl
    rw[e2,hrg]
    show (callFunc f ((g1++B6.map a.eval)++d1)).run P w=_
    exact Gh hc
  ·cases hv
end
end Go.PM
namespace Go.PM
section
variable {H:aE}
theorem Xn {lo:Nat} {H':aE} (h:Ext H.length H H'):Ext lo H H' :=
 ⟨h.len,fun b _ hl=>h.low b hl hl,h.liv⟩
theorem IP {lo size bytes add:Nat} {x v:Value} {new:List Value} {H':aE} (h:eJ lo size bytes x add new H=some (v,H')):Ext lo H H':=by
 unfold eJ at h
 split at h
 case isFalse=>cases h
 split at h
 ·split at h
  ·split at h
   ·cases h;exact Ext.refl _ _
   ·split at h
    ·cases h;exact oM _ _ _
    ·cases h
  ·cases h
 ·split at h
  ·split at h
   ·split at h
    ·split at h
     ·cases h;exact Ext.refl _ _
     ·cases hw:aE.write H lo _ _ new with
      | none=>rw[hw] at h;cases h
      | some H1=>rw[hw] at h;cases h;exact DR hw
    ·split at h
     ·split at h
      ·split at h
       ·rename_i EE
        cases h
        exact WH EE
       ·cases h
      ·cases h;exact oM _ _ _
     ·cases h
   ·cases h
  ·cases h
 ·cases h
theorem Y5 {lo size:Nat} {x v:Value} {l h' mx:Option Value} {H':aE} (h:Cf size x l h' mx H=some (v,H')):Ext lo H H':=by
 unfold Cf at h
 repeat' (split at h)
 all_goals first
  | (cases h;done)
  | (cases h;exact Ext.refl _ _)
  | (cases h;exact oM _ _ _)
theorem Vz {lo:Nat} {po:mV} {ρ:Env} {v:Value} {H':aE} (h:pop lo po ρ H=some (.val v H')):Ext lo H H':=by
 by_cases iK:tD po=true
 ·rw[wZ iK] at h
  obtain⟨_,rfl⟩:=Db h
  exact Ext.refl _ _
 cases po<;>first | exact absurd rfl iK | skip
 case load agg size p =>
  simp only[pop] at h
  cases hl:nK agg size (ev ρ p) H with
  | none=>rw[hl] at h;cases h
  | some u=>rw[hl] at h;cases h;exact Ext.refl _ _
 case sub size x l hh mx =>
  simp only[pop] at h
  cases hs:Cf size (ev ρ x) (l.map (ev ρ)) (hh.map (ev ρ)) (mx.map (ev ρ)) H with
  | none=>rw[hs] at h;cases h
  |
   some q =>
   obtain⟨u,H1⟩:=q
   rw[hs] at h;cases h;exact Y5 hs
 case b2s x =>
  simp only[pop] at h
  split at h
  ·cases h;exact Ext.refl _ _
  ·split at h
   ·rename_i cs _
    cases hb:tA cs with
    | none=>rw[hb] at h;cases h
    | some bs=>rw[hb] at h;cases h;exact Ext.refl _ _
   ·cases h
  ·cases h
 case new z=>cases h;exact oM _ _ _
 case box x =>
  simp only[pop] at h
  split at h
  ·cases h;exact oM _ _ _
  ·cases h
 case make z b l c =>
  simp only[pop] at h
  split at h
  ·split at h
   ·cases h;exact oM _ _ _
   ·cases h
  ·cases h
 case lit z n parts =>
  simp only[pop] at h
  split at h
  ·split at h
   ·cases h;exact oM _ _ _
   ·cases h
  ·cases h
 case call f args=>cases h
 case callv f args =>
  simp only[pop] at h
  split at h<;>cases h
 case store size p x =>
  simp only[pop] at h
  split at h
  ·rename_i b o _
   split at h
   ·cases hw:H.write lo b o (aM (ev ρ x)) with
    | none=>rw[hw] at h;cases h
    | some H1=>rw[hw] at h;cases h;exact DR hw
   ·cases h
  ·cases h
 case app size bytes x y =>
  simp only[pop] at h
  split at h
  ·rename_i n _
   split at h
   ·rename_i new _
    cases ha:eJ lo size bytes (ev ρ x) n new H with
    | none=>rw[ha] at h;cases h
    |
     some q =>
     obtain⟨u,H1⟩:=q
     rw[ha] at h;cases h;exact IP ha
   ·cases h
  ·cases h
 case appz z bytes x n =>
  simp only[pop] at h
  split at h
  ·rename_i k _
   split at h
   ·cases ha:eJ lo z.length bytes (ev ρ x) k.toNat (cU k.toNat z) H with
    | none=>rw[ha] at h;cases h
    |
     some q =>
     obtain⟨u,H1⟩:=q
     rw[ha] at h;cases h;exact IP ha
   ·cases h
  ·cases h
 case copy size x y =>
  simp only[pop] at h
  split at h
  ·cases h;exact Ext.refl _ _
  ·rename_i b o d _ s _ _
   split at h
   ·rename_i new _
    cases hw:H.write lo b o new with
    | none=>rw[hw] at h;cases h
    | some H1=>rw[hw] at h;cases h;exact DR hw
   ·cases h
  ·cases h
 case clear z x =>
  simp only[pop] at h
  split at h
  ·cases h;exact Ext.refl _ _
  ·rename_i b o n _ _
   split at h
   ·cases h;exact Ext.refl _ _
   ·cases hw:H.write lo b o (cU n z) with
    | none=>rw[hw] at h;cases h
    | some H1=>rw[hw] at h;cases h;exact DR hw
  ·cases h
def qX (call:fV):Prop:=∀f args lo H v H',call f args lo H=some (v,H')→Ext lo H H'
theorem K1 {call:fV} (hc:qX call) {lo:Nat} {i:PI} {ρ:Env} {v:Value} {H':aE} (h:yO call lo i ρ H=some (v,H')):Ext lo H H':=by
 unfold yO at h
 split at h
 ·cases h
 ·cases h;exact Ext.refl _ _
 ·split at h
  ·split at h
   ·rename_i hp
    cases h
    exact Vz hp
   ·rename_i f args _
    have:=hc _ _ _ _ _ _ h
    split at this
    ·exact Xn this
    ·exact this
   ·cases h
  ·cases h
theorem wS {call:fV} {lo:Nat} {i:PI} {ρ bC:Env} {H':aE} (h:xQ call lo i ρ H=some (bC,H')):∃v,yO call lo i ρ H=some (v,H')∧bC=put ρ i.dst v:=by
 unfold xQ at h
 split at h
 ·rename_i v H1 hv
  cases h
  exact⟨v,hv,rfl⟩
 ·cases h
theorem G9 {call:fV} (hc:qX call) {lo:Nat} {i:PI} {ρ bC:Env} {H':aE} (h:xQ call lo i ρ H=some (bC,H')):Ext lo H H':=by
 obtain⟨v,h1,_⟩:=wS h
 exact K1 hc h1
theorem KP {call:fV} (hc:qX call) {lo:Nat}:∀(is:List PI) {ρ bC:Env} {H H':aE},gM call lo is ρ H=some (bC,H')→Ext lo H H'
 | [],ρ,bC,H,H',h=>by cases h;exact Ext.refl _ _
 |
  i::is,ρ,bC,H,H',h=>by
  rw[gM] at h
  split at h
  ·rename_i h1
   exact(G9 hc h1).trans (KP hc is h)
  ·cases h
theorem HQ {lo:Nat} {body:Env→aE→Option (Ex×Env×aE)} (hb:∀ρ H x bC H',body ρ H=some (x,bC,H')→Ext lo H H'):∀(n:Nat) {ρ bC:Env} {H H':aE} {x:Ex},wW body n ρ H=some (x,bC,H')→Ext lo H H'
 | 0,_,_,_,_,_,h=>by cases h
 |
  n+1,ρ,bC,H,H',x,h=>by
  rw[wW] at h
  split at h
  ·rename_i h1
   exact(hb _ _ _ _ _ h1).trans (HQ hb n h)
  ·exact hb _ _ _ _ _ h
theorem iX {call:fV} (hc:qX call) {lo n:Nat}:∀(c:aD) {ρ bC:Env} {H H':aE} {x:Ex},dI call lo n c ρ H=some (x,bC,H')→Ext lo H H'
 | .skip,_,_,_,_,_,h=>by cases h;exact Ext.refl _ _
 |
  .dH ops,ρ,bC,H,H',x,h=>by
  rw[dI] at h
  cases hp:gM call lo ops ρ H with
  | none=>rw[hp] at h;cases h
  |
   some q =>
   obtain⟨wB,H1⟩:=q
   rw[hp] at h;cases h
   exact KP hc ops hp
 |
  .seq a b,ρ,bC,H,H',x,h=>by
  rw[dI] at h
  split at h
  ·rename_i h1
   exact(iX hc a h1).trans (iX hc b h)
  ·exact iX hc a h
 |
  .cond c a b,ρ,bC,H,H',x,h=>by
  rw[dI] at h
  split at h
  ·split at h
   ·exact iX hc a h
   ·exact iX hc b h
  ·cases h
 |
  .block id a,ρ,bC,H,H',x,h=>by
  rw[dI] at h
  split at h
  ·rename_i h1
   split at h<;>(cases h;exact iX hc a h1)
  ·exact iX hc a h
 |
  .loop a,ρ,bC,H,H',x,h=>by
  rw[dI] at h
  exact HQ (fun ρ H x bC H' h=>iX hc a h) n h
 | .exit id,_,_,_,_,_,h=>by cases h;exact Ext.refl _ _
 | .ret,_,_,_,_,_,h=>by cases h;exact Ext.refl _ _
theorem DZ (E:AF) (T:Z2):∀n,qX (lJ E T n)
 | 0=>fun _ _ _ _ _ _ h=>by cases h
 |
  n+1=>fun f args lo H v H' h=>by
  rw[lJ] at h
  split at h
  ·rename_i p _
   cases hp:p args H with
   | none=>rw[hp] at h;cases h
   | some u=>rw[hp] at h;cases h;exact Ext.refl _ _
  ·split at h
   ·cases h
   ·rename_i pf _
    split at h
    ·split at h
     ·rename_i wB H1 h1
      cases hr:qA pf.res wB H1 with
      | none=>rw[hr] at h;cases h
      | some u=>rw[hr] at h;cases h;exact iX (DZ E T n) _ h1
     ·rename_i wB H1 h1
      cases hr:qA pf.res wB H1 with
      | none=>rw[hr] at h;cases h
      | some u=>rw[hr] at h;cases h;exact iX (DZ E T n) _ h1
     ·cases h
    ·cases h
end
end Go.PM
namespace Go.PM
theorem D1 {α β:Type} {f:α→Option β}:∀ {l:List α} {ys:List β},l.mapM f=some ys→ys.length=l.length∧∀i (h:i<l.length),f l[i]=ys[i]?
 |
  [],ys,h=>by
  simp at h
  subst h
  exact⟨rfl,fun i h=>absurd h (by simp)⟩
 |
  x::l,ys,h=>by
  simp only[List.mapM_cons,Option.pure_def,Option.bind_eq_bind] at h
  cases h1:f x with
  | none=>rw[h1] at h;cases h
  |
   some y =>
   rw[h1] at h
   cases h2:l.mapM f with
   | none=>rw[h2] at h;cases h
   |
    some zs =>
    rw[h2] at h
    cases h
    obtain⟨k1,k2⟩:=D1 h2
    refine⟨by simp[k1],fun i hi => ?_⟩
    cases i with
    | zero=>simpa using h1
    | succ i=>simpa using k2 i (by simpa using hi)
theorem Rt {α β:Type} {f:α→Option β} {l:List α} {ys:List β} (h:l.mapM f=some ys) {i:Nat} {x:α} (hx:l[i]? = some x):∃y,ys[i]? = some y∧f x=some y:=by
 obtain⟨h1,h2⟩:=D1 h
 obtain⟨bA,rfl⟩:=List.getElem?_eq_some_iff.1 hx
 have J9:i<ys.length:=by omega
 refine⟨ys[i],List.getElem?_eq_getElem J9,?_⟩
 rw[h2 i bA,List.getElem?_eq_getElem J9]
def Ef (E:AF) (ops:List Oper) (M:List Nat) (i j:Nat) (pi pj:mV) (l:List (Operand×Operand)):Prop :=
 match fP E pi,fP E pj with
 | .look,.write | .write,.look=>ahead M i j=true∨∃a b,Eu pi=some a∧Eu pj=some b∧DM ops i j a=true∧(a,b)∈l
 | .write,.write | .quiet,.write | .write,.quiet=>ahead M i j=true
 | _,_=>True
theorem Ef.mono {E:AF} {ops:List Oper} {M:List Nat} {i j:Nat} {pi pj:mV} {l l':List (Operand×Operand)} (h:Ef E ops M i j pi pj l) (hl:∀x∈l,x∈l'):Ef E ops M i j pi pj l':=by
 unfold Ef at h ⊢
 split at h
 all_goals first
  | exact h
  | exact h.imp id fun⟨a,b,h1,h2,h3,h4⟩=>⟨a,b,h1,h2,h3,hl _ h4⟩
theorem KX {E:AF} {ops:List Oper} {ps:List mV} {M:List Nat} {j:Nat} {pj:mV} {l:List (Operand×Operand)} (h:conflicts E ops ps M j pj=some l) :
  ∀i,i<j→∀pi,ps[i]? = some pi→Ef E ops M i j pi pj l:=by
 have key:∀(is:List Nat) (l:List (Operand×Operand)),(is.foldr (fun i acc=>match acc,ps[i]? with
  |
   some l,some pi =>
   match fP E pi,fP E pj with
   |
    .look,.write | .write,.look =>
    if ahead M i j then some l
    else match Eu pi,Eu pj with
     | some a,some b=>if DM ops i j a then some ((a,b)::l) else none
     | _,_=>none
   | .write,.write | .quiet,.write | .write,.quiet=>if ahead M i j then some l else none
   | _,_=>some l
  | _,_=>none) (some []))=some l→∀i∈is,∀pi,ps[i]? = some pi→Ef E ops M i j pi pj l:=by
  intro is
  induction is with
  | nil=>intro l _ i hi;cases hi
  |
   cons i0 is ih =>
   intro l h i hi pi WA
   rw[List.foldr_cons] at h
   revert h
   generalize awE:is.foldr _ (some [])=acc
   intro h
   cases acc with
   | none=>cases h
   |
    some l0 =>
    have ih':=ih l0 awE
    cases hp0:ps[i0]? with
    | none=>rw[hp0] at h;cases h
    |
     some p0 =>
     rw[hp0] at h
     simp only at h
     have step:(∀x∈l0,x∈l)∧Ef E ops M i0 j p0 pj l:=by
      unfold Ef
      split at h
      ·rename_i c1 c2
       try rw[c1,c2]
       split at h
       ·rename_i ha;cases h;exact⟨fun x hx=>hx,.inl ha⟩
       ·split at h
        ·rename_i a b ta tb
         split at h
         ·rename_i hu;cases h;exact⟨fun x hx=>List.mem_cons_of_mem _ hx,.inr ⟨a,b,ta,tb,hu,List.mem_cons_self⟩⟩
         ·cases h
        ·cases h
      ·rename_i c1 c2
       try rw[c1,c2]
       split at h
       ·rename_i ha;cases h;exact⟨fun x hx=>hx,.inl ha⟩
       ·split at h
        ·rename_i a b ta tb
         split at h
         ·rename_i hu;cases h;exact⟨fun x hx=>List.mem_cons_of_mem _ hx,.inr ⟨a,b,ta,tb,hu,List.mem_cons_self⟩⟩
         ·cases h
        ·cases h
      ·rename_i c1 c2
       try rw[c1,c2]
       split at h
       ·rename_i ha;cases h;exact⟨fun x hx=>hx,ha⟩
       ·cases h
      ·rename_i c1 c2
       try rw[c1,c2]
       split at h
       ·rename_i ha;cases h;exact⟨fun x hx=>hx,ha⟩
       ·cases h
      ·rename_i c1 c2
       try rw[c1,c2]
       split at h
       ·rename_i ha;cases h;exact⟨fun x hx=>hx,ha⟩
       ·cases h
      ·cases h
       refine⟨fun x hx=>hx,?_⟩
       first | trivial | (split<;>first | trivial | (simp_all;done)) | (simp_all;done)
     rcases List.mem_cons.1 hi with rfl | hi
     ·rw[hp0] at WA
      cases WA
      exact step.2
     ·exact(ih' i hi pi WA).mono step.1
 exact fun i hi pi WA=>key _ l h i (List.mem_range.2 hi) pi WA
structure YQ (P:Program) (E:AF) (n:Nat) (ops:List Oper) (i:Nat) (o:Oper) (p:mV) (pi:PI):Prop where
 Wv:pF P o.op=some p
 dst:pi.dst=o.dst
 op:pi.op=p
 guard:guardOf ops i o=some pi.g
 bound:∀d,o.dst=some d→d<n
structure PG (E:AF) (ops:List Oper) (ps:List mV) (M:List Nat) (i:Nat) (o:Oper) (p:mV) (pi:PI):Prop where
 back:∀e∈o.after.toList,Region.binds .any e=true→e.on<i
 guard:∀j w,o.guard=some (j,w)→(M.getD i 0).testBit j=true
 NZ:∀t∈o.dst.toList++vU ops o,∀k ok,ops[k]? = some ok→ok.dst=some t→k=i∨ahead M i k=true
 mask:M.getD i 0=wH o M
 quiet:pi.quiet=(match fP E p with | .quiet=>true | _=>false)
 apP:∀k,k<i→∀pk,ps[k]? = some pk→Ef E ops M k i pk p pi.cf
theorem QY {P:Program} {E:AF} {n:Nat} {ops:List Oper} {ps:List mV} {M:List Nat} {draw:Bool} {i:Nat} {pi:PI} (h:SS E ops ps M n draw i=some pi) {o:Oper} {p:mV} (ho:ops[i]? = some o) (hp:ps[i]? = some p)
  (V6:pF P o.op=some p):YQ P E n ops i o p pi∧(draw=true→PG E ops ps M i o p pi)∧(draw=false→pi.quiet=false∧pi.cf=[]):=by
 unfold SS at h
 rw[ho,hp] at h
 simp only at h
 split at h
 case isFalse=>cases h
 rename_i hb
 have hbound:∀d,o.dst=some d→d<n:=by
  intro d hd
  rw[hd] at hb
  simpa[aiL] using hb
 split at h
 ·cases h
 ·rename_i g hg
  cases draw with
  |
   false =>
   simp only[Bool.false_eq_true,if_false] at h
   cases h
   exact⟨⟨V6,rfl,rfl,hg,hbound⟩,(fun h=>by cases h),fun _=>⟨rfl,rfl⟩⟩
  |
   true =>
   simp only[if_true] at h
   split at h
   case isFalse=>cases h
   rename_i hc
   simp only[Bool.and_eq_true,beq_iff_eq] at hc
   obtain⟨⟨⟨c1,c2⟩,c3⟩,c4⟩:=hc
   cases PQ:conflicts E ops ps M i p with
   | none=>rw[PQ] at h;cases h
   |
    some cf =>
    rw[PQ] at h
    cases h
    refine⟨⟨V6,rfl,rfl,hg,hbound⟩,fun _=>⟨fun e he hbd => ?_,fun j w hj => ?_,fun t ht k ok hk hkd => ?_,c4,rfl,KX PQ⟩,(fun h=>by cases h)⟩
    ·have:=List.all_eq_true.1 c1 e he
     simpa[hbd] using this
    ·rw[hj] at c2
     exact c2
    ·have h1:=List.all_eq_true.1 c3 t ht
     have hk':k<ops.length:=(List.getElem?_eq_some_iff.1 hk).1
     have h2:=List.all_eq_true.1 h1 k (List.mem_range.2 hk')
     rw[hk] at h2
     simp only[Bool.or_eq_true,bne_iff_ne,ne_eq,beq_iff_eq] at h2
     rcases h2 with(h2 | h2) | h2
     ·exact absurd hkd h2
     ·exact .inl h2
     ·exact .inr h2
structure ahG (P:Program) (E:AF) (n:Nat) (ops:List Oper) (draw:Bool) (sP:List PI) (ps:List mV) (M:List Nat):Prop where
 D8:ps.length=ops.length
 auD:sP.length=ops.length
 each:∀i o,ops[i]? = some o→∃p pi,ps[i]? = some p∧sP[i]? = some pi∧YQ P E n ops i o p pi∧(draw=true→PG E ops ps M i o p pi)∧(draw=false→pi.quiet=false∧pi.cf=[])
theorem Jh {P:Program} {E:AF} {n:Nat} {ops:Array Oper} {draw:Bool} {sP:List PI} (h:xL P E n ops draw=some sP):∃ps M,ahG P E n ops.toList draw sP ps M:=by
 unfold xL at h
 split at h
 ·rename_i ps hps
  simp only at h
  generalize (if draw=true then OZ ops.toList [] else [])=M at h
  obtain⟨h1,h2⟩:=D1 hps
  obtain⟨h3,h4⟩:=D1 h
  refine⟨ps,M,h1,by simpa using h3,fun i o ho => ?_⟩
  have bA:=(List.getElem?_eq_some_iff.1 ho).1
  obtain⟨p,hp,V6⟩:=Rt hps ho
  have hr:(List.range ops.size)[i]? = some i:=by rw[List.getElem?_range];simpa using bA
  obtain⟨pi,WA,hpp⟩:=Rt h hr
  exact⟨p,pi,hp,WA,QY hpp ho hp V6⟩
 ·cases h
theorem MU {o:Oper} {M:List Nat} {i:Nat} (h:(wH o M).testBit i=true):∃e∈o.after.toList,Region.binds .any e=true∧(e.on=i∨(M.getD e.on 0).testBit i=true):=by
 unfold wH at h
 revert h
 generalize o.after.toList=es
 induction es with
 | nil=>intro h;simp at h
 |
  cons e es ih =>
  intro h
  rw[List.foldr_cons] at h
  split at h
  ·rename_i hb
   rw[Nat.testBit_or,Nat.testBit_or,Bool.or_eq_true,Bool.or_eq_true] at h
   rcases h with(h | h) | h
   ·obtain⟨e',h1,h2⟩:=ih h
    exact⟨e',List.mem_cons_of_mem _ h1,h2⟩
   ·refine⟨e,List.mem_cons_self,hb,.inl ?_⟩
    rw[Nat.testBit_two_pow] at h
    simpa using h
   ·exact⟨e,List.mem_cons_self,hb,.inr h⟩
  ·obtain⟨e',h1,h2⟩:=ih h
   exact⟨e',List.mem_cons_of_mem _ h1,h2⟩
theorem Tv {ops:List Oper} {M:List Nat} {S:Nat→Prop} (hb:∀i o,ops[i]? = some o→∀e∈o.after.toList,Region.binds .any e=true→e.on<i) (hm:∀i o,ops[i]? = some o→M.getD i 0=wH o M)
  (hS:∀i o,ops[i]? = some o→S i→∀e∈o.after.toList,Region.binds .any e=true→S e.on):∀j o,ops[j]? = some o→(∀e∈o.after.toList,Region.binds .any e=true→S e.on)→∀i,(M.getD j 0).testBit i=true→S i:=by
 intro j
 induction j using Nat.strongRecOn with
 |
  _ j ih =>
  intro o ho hj i hi
  rw[hm j o ho] at hi
  obtain⟨e,he,hbd,h1⟩:=MU hi
  rcases h1 with rfl | h1
  ·exact hj e he hbd
  ·have bA:=hb j o ho e he hbd
   have hjl:=(List.getElem?_eq_some_iff.1 ho).1
   have hel:e.on<ops.length:=by omega
   exact ih e.on bA ops[e.on] (List.getElem?_eq_getElem hel) (hS e.on _ (List.getElem?_eq_getElem hel) (hj e he hbd)) i h1
end Go.PM
namespace Go.PM
def wC (P:Program) (L0:Nat) (call:fV):Prop :=
 ∀f args lo H v H',call f args lo H=some (v,H')→∀m w gI,Rel m L0 H w→L0≤lo→L0≤H.length→RL m args gI→(∀b,H.length≤b→b<H'.length→m b=none) →
  Me P f∧Calls P f gI.toArray w fun e w'=>∃m' rv,e = .returned rv∧RV m' v rv∧Rel m' L0 H' w'∧Trans lo m H w m' H' w'
section
variable {P:Program} {m:dE} {L0:Nat} {H:aE} {w:World}
theorem sW {call:fV} {lo:Nat} {i:PI} {ρ:Env} {v:Value} {H':aE} (h:yO call lo i ρ H=some (v,H')) :
  (yP i.g ρ=some false∧v=undef∧H'=H) ∨
  (yP i.g ρ=some true∧i.cf.all (Az ρ)=true∧(pop lo i.op ρ H=some (.val v H') ∨
   ∃f args,pop lo i.op ρ H=some (.call f args)∧call f args (if i.quiet then H.length else lo) H=some (v,H'))):=by
 unfold yO at h
 split at h
 ·cases h
 ·rename_i hw;cases h;exact .inl ⟨hw,rfl,rfl⟩
 ·rename_i hw
  split at h
  ·rename_i PQ
   refine .inr ⟨hw,PQ,?_⟩
   split at h
   ·rename_i hp;cases h;exact .inl hp
   ·rename_i f args hp;exact .inr ⟨f,args,hp,h⟩
   ·cases h
  ·cases h
theorem W0 {t:Array Value} {d:Nat} {b:Bool} (h:t.getD d undef = .bool b):t[d]? = some (.bool b):=by
 rcases Nat.lt_or_ge d t.size with hd | hd
 ·simp[hd] at h ⊢
  exact h
 ·simp[Array.getElem?_eq_none hd,undef] at h
theorem E9 {ops:Array Oper} {i:Nat} {o:Oper} {g:Option (Nat×Bool)} {ρ:Env} {a:Act} {t:Bool} (hg:guardOf ops.toList i o=some g) (hw:yP g ρ=some t)
  (hr:∀d∈vU ops.toList o,RV m (ρ d) (a.tmps.getD d undef)):Region.wanted o (yielded ops a.tmps)=t:=by
 unfold guardOf at hg
 unfold Region.wanted
 cases hgd:o.guard with
 |
  none =>
  rw[hgd] at hg
  cases hg
  cases hw
  rfl
 |
  some jw =>
  obtain⟨j,want⟩:=jw
  rw[hgd] at hg
  simp only at hg
  split at hg
  ·split at hg
   ·rename_i d hd
    cases hg
    have LH:d∈vU ops.toList o:=by
     unfold vU
     rw[hgd]
     simp only[List.mem_append]
     right
     rw[hd]
     simp
    have UH:=hr d LH
    simp only[yP] at hw
    split at hw
    ·rename_i b hb
     cases hw
     rw[hb] at UH
     generalize hx:a.tmps.getD d undef=x at UH
     cases UH
     have hy:yielded ops a.tmps j=some b:=by
      unfold yielded
      have Wn:(ops[j]?).bind (·.dst)=some d:=by simpa using hd
      rw[Wn,Option.bind_some,W0 hx]
     simp only[hy]
     cases b<;>cases want<;>rfl
    ·rename_i vs hb
     cases hw
     rw[hb] at UH
     generalize hx:a.tmps.getD d undef=x at UH
     obtain⟨ws,rfl⟩:∃ws,x = .tuple ws:=by cases UH;exact⟨_,rfl⟩
     have Wn:(ops[j]?).bind (·.dst)=some d:=by simpa using hd
     have hy:yielded ops a.tmps j=none:=by
      unfold yielded
      rw[Wn,Option.bind_some]
      rcases Nat.lt_or_ge d a.tmps.size with bA | bA
      ·have:a.tmps[d]? = some (.tuple ws):=by rw[←hx];simp[bA]
       rw[this]
      ·rw[Array.getElem?_eq_none bA]
     simp only[hy]
     rfl
    ·cases hw
   ·cases hg
  ·cases hg
theorem acQ {E:AF} {p:mV} {lo jI:Nat} {ρ:Env} (h:fP E p = .quiet):pop lo p ρ H=pop jI p ρ H:=by
 cases p<;>first | rfl | (simp[fP] at h;done)
theorem EO {ops:List Oper} {o:Oper} {t:Nat} (h:Operand.tmp t∈o.op.operands):t∈vU ops o:=by
 unfold vU tmpsOf
 rw[List.mem_append]
 left
 rw[List.mem_filterMap]
 exact⟨.tmp t,by simpa using h,rfl⟩
theorem Ld {op:Op} {p:mV} (h:pF P op=some p):∀x∈op.operands,OX x=true:=by
 intro x hx
 unfold pF at h
 split at h
 ·rename_i lF
  obtain⟨i,hi,rfl⟩:=Array.getElem_of_mem hx
  exact Array.all_eq_true.1 lF i hi
 ·cases h
theorem PK {E:AF} {n lo k:Nat} {ops:Array Oper} {o:Oper} {p:mV} {pi:PI} {call:fV} {ρ:Env} {v:Value} {H':aE} {a:Act} {K:Act→World→Prop} {Q:Exit→Act→World→Prop} (ho:ops[k]? = some o) (Dx:YQ P E n ops.toList k o p pi)
  (hq:pi.quiet=true→fP E p = .quiet) (hv:yO call lo pi ρ H=some (v,H')) (hr:∀t∈vU ops.toList o,RV m (ρ t) (a.tmps.getD t undef)) (hR:Rel m L0 H w) (eQ:L0≤lo) (hlen:L0≤H.length)
  (hf:∀b,H.length≤b→b<H'.length→m b=none) (mZ:wC P L0 call)
  (hK:∀m' rv w',RV m' v rv→Rel m' L0 H' w'→Trans (if pi.quiet then H.length else lo) m H w m' H' w'→K (a.put o.dst rv) w'):wpOp P ops Q k K a w:=by
 have hro:∀x∈o.op.operands,RV m (ev ρ x) (a.eval x):=fun x hx=>TV (Ld Dx.Wv x hx) fun t ht=>hr t (EO (ht▸hx))
 unfold wpOp
 rw[ho]
 simp only
 rcases sW hv with⟨hw,rfl,rfl⟩ | ⟨hw,_,hp | ⟨f,args,hp,hc⟩⟩
 ·rw[E9 Dx.guard hw hr]
  simp only[Bool.false_eq_true,if_false]
  exact hK m undef w (RV.undef m) hR (Trans.refl _ m _ w)
 ·rw[E9 Dx.guard hw hr]
  simp only[if_true]
  left
  rw[Dx.op] at hp
  have hs:cM P (execOp a.eval o) L0 (if pi.quiet then H.length else lo) m H w v H':=by
   split
   ·rename_i hqq
    rw[acQ (jI:=H.length) (hq hqq)] at hp
    exact Vf Dx.Wv hp hro hR hlen hf
   ·exact Vf Dx.Wv hp hro hR eQ hf
  obtain⟨rv,w',m',oY,h1,h2,h3⟩:=hs
  unfold Oper.wp
  rcases oY with oY | ⟨oY,rfl⟩
  ·rw[oY]
   exact hK m' rv w' h1 h2 h3
  ·rw[oY]
   exact hK m' undef w' h1 h2 h3
 ·rw[E9 Dx.guard hw hr]
  simp only[if_true]
  left
  rw[Dx.op] at hp
  have aqA:L0≤(if pi.quiet then H.length else lo):=by split<;>assumption
  obtain⟨gI,SD,aqX⟩:=WG Dx.Wv hp hro
  have oY:=aqX (mZ f args _ H v H' hc m w gI hR aqA hlen SD hf).1
  unfold Oper.wp
  rw[oY w]
  show Calls P f gI.toArray w _
  refine(mZ f args _ H v H' hc m w gI hR aqA hlen SD hf).2.mono ?_
  rintro e w' ⟨m',rv,rfl,h1,h2,h3⟩
  exact hK m' rv w' h1 h2 h3
end
end Go.PM
namespace Go.PM
theorem F3 {call:fV} {lo:Nat}:∀ {sP:List PI} {ρ bC:Env} {H H':aE},gM call lo sP ρ H=some (bC,H') →
  ∃st:Nat→Env×aE,st 0=(ρ,H)∧st sP.length=(bC,H')∧∀i pi,sP[i]? = some pi→xQ call lo pi (st i).1 (st i).2=some (st (i+1))
 |
  [],ρ,bC,H,H',h=>by
  cases h
  exact⟨fun _=>(ρ,H),rfl,rfl,fun i pi hi=>by simp at hi⟩
 |
  x::sP,ρ,bC,H,H',h=>by
  rw[gM] at h
  split at h
  ·rename_i wB H1 h1
   obtain⟨st,h2,h3,h4⟩:=F3 h
   refine⟨fun i=>match i with | 0=>(ρ,H) | i+1=>st i,rfl,h3,fun i pi hi => ?_⟩
   cases i with
   |
    zero =>
    simp at hi
    subst hi
    show xQ call lo x ρ H=some (st 0)
    rw[h1,h2]
   | succ i=>exact h4 i pi (by simpa using hi)
  ·cases h
theorem iG {H1 H2:aE} {b:Nat} (h:H2[b]? = H1[b]?):Live H2 b↔Live H1 b:=by
 unfold Live
 rw[h]
theorem Rel.restrict {m:dE} {L0:Nat} {H1 H2:aE} {w:World} (h:Rel m L0 H2 w) (hs:∀b,b<H1.length→H2[b]? = H1[b]?):Rel m L0 H1 w:=by
 refine⟨h.valid,fun b l cs e p hm hb=>h.row b l cs e p hm ?_,fun b1 b2 l1 l2 hb h1 h2 Ds Gs=>h.inj b1 b2 l1 l2 hb h1 h2 ((iG (hs b1 Ds.lt)).2 Ds) ((iG (hs b2 Gs.lt)).2 Gs),fun x hx=>⟨(h.Dv x hx).1,fun b l hb hm hl=>(h.Dv x hx).2 b l hb hm ((iG (hs b hl.lt)).2 hl)⟩⟩
 rw[hs b (List.getElem?_eq_some_iff.1 hb).1]
 exact hb
theorem Rel.grow {m:dE} {L0:Nat} {H1 H2:aE} {w:World} (h:Rel m L0 H1 w) (hs:∀b,b<H1.length→H2[b]? = H1[b]?) (hd:∀b,H1.length≤b→b<H2.length→m b=none):Rel m L0 H2 w:=by
 have lt:∀b l,m b=some l→b<H2.length→b<H1.length:=fun b l hm hb=>by
  rcases Nat.lt_or_ge b H1.length with h | h
  ·exact h
  ·rw[hd b h hb] at hm;cases hm
 refine⟨h.valid,fun b l cs e p hm hb=>h.row b l cs e p hm ?_,fun b1 b2 l1 l2 hb h1 h2 Ds Gs=>h.inj b1 b2 l1 l2 hb h1 h2 ((iG (hs b1 (lt b1 l1 h1 Ds.lt))).1 Ds) ((iG (hs b2 (lt b2 l2 h2 Gs.lt))).1 Gs),fun x hx=>⟨(h.Dv x hx).1,fun b l hb hm hl=>(h.Dv x hx).2 b l hb hm ((iG (hs b (lt b l hm hl.lt))).1 hl)⟩⟩
 rw[←hs b (lt b l hm (List.getElem?_eq_some_iff.1 hb).1)]
 exact hb
structure Text (P:Program) (E:AF) (n:Nat) (ops:Array Oper) (sP:List PI) (ps:List mV) (M:List Nat) (call:fV) (lo:Nat) (st:Nat→Env×aE):Prop where
 ok:ahG P E n ops.toList true sP ps M
 ext:qX call
 step:∀i pi,sP[i]? = some pi→xQ call lo pi (st i).1 (st i).2=some (st (i+1))
section
variable {P:Program} {E:AF} {n:Nat} {ops:Array Oper} {sP:List PI} {ps:List mV} {M:List Nat} {call:fV} {lo:Nat} {st:Nat→Env×aE}
theorem Text.at (T:Text P E n ops sP ps M call lo st) {i:Nat} (hi:i<ops.size):∃o p pi,ops[i]? = some o∧ps[i]? = some p∧sP[i]? = some pi∧YQ P E n ops.toList i o p pi∧PG E ops.toList ps M i o p pi ∧
  ∃v,yO call lo pi (st i).1 (st i).2=some (v,(st (i+1)).2)∧(st (i+1)).1=put (st i).1 o.dst v:=by
 have ho:ops.toList[i]? = some ops[i]:=by simp[hi]
 obtain⟨p,pi,h1,h2,h3,h4,_⟩:=T.ok.each i _ ho
 obtain⟨v,h5,h6⟩:=wS (T.step i pi h2)
 exact⟨ops[i],p,pi,by simp[hi],h1,h2,h3,h4 rfl,v,h5,by rw[h6,h3.dst]⟩
theorem Text.aqS (T:Text P E n ops sP ps M call lo st) {i:Nat} (hi:i<ops.size):(st i).2.length≤(st (i+1)).2.length:=by
 obtain⟨o,p,pi,_,_,_,_,_,v,hv,_⟩:=T.at hi
 exact(K1 T.ext hv).len
theorem Text.len (T:Text P E n ops sP ps M call lo st) {i:Nat}:∀ {j:Nat},i≤j→j≤ops.size→(st i).2.length≤(st j).2.length:=by
 intro j OA
 induction j with
 | zero =>
    intro _;have:i=0:=by omega
    subst this;exact Nat.le_refl _
 |
  succ j ih =>
  intro hj
  rcases Nat.lt_or_ge i (j+1) with h | h
  ·exact Nat.le_trans (ih (by omega) (by omega)) (T.aqS (by omega))
  ·have:i=j+1:=by omega
   subst this;exact Nat.le_refl _
theorem Text.apS (T:Text P E n ops sP ps M call lo st) {i:Nat} {p:mV} (hi:i<ops.size) (hp:ps[i]? = some p) (hw:fP E p ≠ .write):∀b,b<(st i).2.length→(st (i+1)).2[b]? = (st i).2[b]? := by
 intro b hb
 obtain⟨o,p',pi,_,Cj,_,Dx,Xg,v,hv,_⟩:=T.at hi
 rw[hp] at Cj
 cases Cj
 rcases sW hv with⟨_,_,h⟩ | ⟨_,_,h | ⟨f,args,h1,h2⟩⟩
 ·rw[h]
 ·rw[Dx.op] at h
  by_cases hq:fP E p = .quiet
  ·rw[acQ (jI:=(st i).2.length) hq] at h
   exact(Vz h).low b hb hb
  ·
   have:(st (i+1)).2=(st i).2:=by
    cases p<;>first
     | (exact absurd rfl hw)
     | (exact absurd rfl hq)
     | (rw[wZ rfl] at h;exact(Db h).2)
     | skip
    case load agg size q =>
     simp only[pop] at h
     cases hl:nK agg size (ev (st i).1 q) (st i).2 with
     | none=>rw[hl] at h;cases h
     | some u=>rw[hl] at h;injection h with h;injection h with _ h;exact h.symm
    case b2s x =>
     simp only[pop] at h
     split at h
     ·injection h with h;injection h with _ h;exact h.symm
     ·split at h
      ·rename_i cs _
       cases hb:tA cs with
       | none=>rw[hb] at h;cases h
       | some bs=>rw[hb] at h;injection h with h;injection h with _ h;exact h.symm
      ·cases h
     ·cases h
    case sub size x l hh mx =>
     simp only[pop] at h
     cases mx with
     | some mx=>exact absurd rfl hq
     |
      none =>
      cases hs:Cf size (ev (st i).1 x) (l.map (ev (st i).1)) (hh.map (ev (st i).1)) ((none:Option Operand).map (ev (st i).1)) (st i).2 with
      | none=>rw[hs] at h;cases h
      |
       some q =>
       obtain⟨u,H1⟩:=q
       rw[hs] at h
       injection h with h;injection h with _ h
       subst h
       unfold Cf at hs
       simp only[Option.map_none,Option.isSome_none,Bool.false_eq_true,false_and,if_false] at hs
       repeat' (split at hs)
       all_goals first
        | (cases hs;done)
        | (injection hs with hs;injection hs with _ hs;exact hs.symm)
    case call f args=>cases h
   rw[this]
 ·rw[Dx.op] at h1
  have hq:pi.quiet=true:=by
   rw[Xg.quiet]
   rcases sB h1 with⟨g,as,rfl⟩ | ⟨g,as,rfl⟩
   ·simp only[fP] at hw ⊢
    split at hw
    ·exact absurd rfl hw
    ·rename_i h;rw[if_neg h]
   ·rfl
  rw[hq] at h2
  exact(T.ext _ _ _ _ _ _ h2).low b hb hb
end
end Go.PM
namespace Go.PM
theorem DX {H H':aE} {lo b o:Nat} {new:List Value} (h:H.write lo b o new=some H') {b':Nat} (hb:b'≠b):H'[b']? = H[b']? := by
 obtain⟨cs,e,p,h1,h2,h3,h4,rfl⟩:=Bz h
 exact List.getElem?_set_ne (Ne.symm hb)
theorem Iu {H H':aE} {lo size bytes add:Nat} {x v:Value} {new:List Value} (h:eJ lo size bytes x add new H=some (v,H')) {b':Nat} (hb:iN x≠some b') (bA:b'<H.length):H'[b']? = H[b']? := by
 unfold eJ at h
 split at h
 case isFalse=>cases h
 split at h
 ·split at h
  ·split at h
   ·cases h;rfl
   ·split at h
    ·cases h;exact List.getElem?_append_left bA
    ·cases h
  ·cases h
 ·rename_i b o n c
  have fC:b'≠b:=fun e=>hb (by rw[e];rfl)
  split at h
  ·split at h
   ·split at h
    ·split at h
     ·cases h;rfl
     ·cases hw:aE.write H lo b (o+n*size) new with
      | none=>rw[hw] at h;cases h
      | some H1=>rw[hw] at h;cases h;exact DX hw fC
    ·split at h
     ·split at h
      ·split at h
       ·cases h
        rw[List.getElem?_append_left (by simpa using bA)]
        exact List.getElem?_set_ne (Ne.symm fC)
       ·cases h
      ·cases h;exact List.getElem?_append_left bA
     ·cases h
   ·cases h
  ·cases h
 ·cases h
theorem afH {E:AF} {lo:Nat} {p:mV} {ρ:Env} {H H':aE} {v:Value} {x:Operand} (h:pop lo p ρ H=some (.val v H')) (hw:fP E p = .write) (ht:Eu p=some x) {b':Nat} (hb:iN (ev ρ x)≠some b') (bA:b'<H.length):H'[b']? = H[b']? := by
 cases p<;>first | (cases ht;done) | (cases hw;done) | skip
 case sub size y l hh mx=>cases mx<;>cases hw
 case store size q y =>
  cases ht
  simp only[pop] at h
  split at h
  ·rename_i b o he
   rw[he] at hb
   have fC:b'≠b:=fun e=>hb (by rw[e];rfl)
   split at h
   ·cases hw:H.write lo b o (aM (ev ρ y)) with
    | none=>rw[hw] at h;cases h
    | some H1=>rw[hw] at h;cases h;exact DX hw fC
   ·cases h
  ·cases h
 case app size bytes y z =>
  cases ht
  simp only[pop] at h
  split at h
  ·rename_i n _
   split at h
   ·rename_i new _
    cases ha:eJ lo size bytes (ev ρ x) n new H with
    | none=>rw[ha] at h;cases h
    |
     some q =>
     obtain⟨u,H1⟩:=q
     rw[ha] at h;cases h;exact Iu ha hb bA
   ·cases h
  ·cases h
 case appz z bytes y n =>
  cases ht
  simp only[pop] at h
  split at h
  ·rename_i k _
   split at h
   ·cases ha:eJ lo z.length bytes (ev ρ x) k.toNat (cU k.toNat z) H with
    | none=>rw[ha] at h;cases h
    |
     some q =>
     obtain⟨u,H1⟩:=q
     rw[ha] at h;cases h;exact Iu ha hb bA
   ·cases h
  ·cases h
 case copy size y z =>
  cases ht
  simp only[pop] at h
  split at h
  ·cases h;rfl
  ·rename_i b o d _ s he _
   rw[he] at hb
   have fC:b'≠b:=fun e=>hb (by rw[e];rfl)
   split at h
   ·rename_i new _
    cases hw:H.write lo b o new with
    | none=>rw[hw] at h;cases h
    | some H1=>rw[hw] at h;cases h;exact DX hw fC
   ·cases h
  ·cases h
 case clear z y =>
  cases ht
  simp only[pop] at h
  split at h
  ·cases h;rfl
  ·rename_i b o n _ he
   rw[he] at hb
   have fC:b'≠b:=fun e=>hb (by rw[e];rfl)
   split at h
   ·cases h;rfl
   ·cases hw:H.write lo b o (cU n z) with
    | none=>rw[hw] at h;cases h
    | some H1=>rw[hw] at h;cases h;exact DX hw fC
  ·cases h
theorem OY {H:aE} {b o n:Nat} {cs:List Value} (h:H.read b o n=some cs):b<H.length:=by
 unfold aE.read at h
 split at h
 ·rename_i hb;exact(List.getElem?_eq_some_iff.1 hb).1
 ·cases h
theorem Ft {H H2:aE} {b o n:Nat} (h:H2[b]? = H[b]?):H2.read b o n=H.read b o n:=by
 unfold aE.read
 rw[h]
theorem Tm {agg:Bool} {size:Nat} {x v:Value} {H H2:aE} (h:nK agg size x H=some v) (hb:∀b,iN x=some b→b<H.length→H2[b]? = H[b]?):nK agg size x H2=some v:=by
 unfold nK at h ⊢
 split at h
 ·rename_i b o
  have bA:b<H.length:=by
   split at h
   ·cases hr:H.read b o size with
    | none=>rw[hr] at h;cases h
    | some cs=>exact OY hr
   ·cases hr:H.read b o 1 with
    | none=>rw[hr] at h;cases h
    | some cs=>exact OY hr
  have e:=hb b rfl bA
  simp only[Ft e]
  exact h
 ·cases h
theorem Ro {E:AF} {lo:Nat} {p:mV} {ρ:Env} {H H' H2:aE} {v:Value} (h:pop lo p ρ H=some (.val v H')) (hc:fP E p = .look) (hb:∀x,Eu p=some x→∀b,iN (ev ρ x)=some b→b<H.length→H2[b]? = H[b]?) :
  H'=H∧pop lo p ρ H2=some (.val v H2):=by
 cases p<;>first | (cases hc;done) | skip
 case call f args=>simp only[fP] at hc;split at hc<;>cases hc
 case load agg size q =>
  simp only[pop] at h ⊢
  cases hl:nK agg size (ev ρ q) H with
  | none=>rw[hl] at h;cases h
  |
   some u =>
   rw[hl] at h
   cases h
   refine⟨rfl,?_⟩
   rw[Tm hl (hb q rfl)]
   rfl
 case b2s x =>
  simp only[pop] at h ⊢
  split at h
  ·cases h;exact⟨rfl,rfl⟩
  ·rename_i b o n _ he
   split at h
   ·rename_i cs hr
    cases hbs:tA cs with
    | none=>rw[hbs] at h;cases h
    |
     some bs =>
     rw[hbs] at h
     cases h
     refine⟨rfl,?_⟩
     have e:=hb x rfl b (by rw[he];rfl) (OY hr)
     rw[Ft e,hr]
     simp only[hbs]
     rfl
   ·cases h
  ·cases h
 case sub size x l hh mx =>
  cases mx with
  | some mx=>cases hc
  |
   none =>
   simp only[pop] at h ⊢
   cases hs:Cf size (ev ρ x) (l.map (ev ρ)) (hh.map (ev ρ)) ((none:Option Operand).map (ev ρ)) H with
   | none=>rw[hs] at h;cases h
   |
    some q =>
    obtain⟨u,H1⟩:=q
    rw[hs] at h
    cases h
    have vJ:=hb x rfl
    generalize ev ρ x=xv at hs vJ
    have key:H1=H∧Cf size xv (l.map (ev ρ)) (hh.map (ev ρ)) ((none:Option Operand).map (ev ρ)) H2=some (u,H2):=by
     unfold Cf at hs ⊢
     simp only[Option.map_none,Option.isSome_none,Bool.false_eq_true,false_and,if_false] at hs ⊢
     split at hs
     ·repeat' (split at hs)
      all_goals first | (cases hs;done) | skip
      cases hs
      simp_all
     ·rename_i b o n c
      split at hs
      ·rename_i cs e p pL
       have e1:=vJ b rfl (List.getElem?_eq_some_iff.1 pL).1
       rw[e1,pL]
       simp only
       repeat' (split at hs)
       all_goals first | (cases hs;done) | skip
       cases hs
       simp_all
      ·cases hs
     ·cases hs
    rw[key.2]
    exact⟨key.1,rfl⟩
section
variable {P:Program} {E:AF} {n:Nat} {ops:Array Oper} {sP:List PI} {ps:List mV} {M:List Nat} {call:fV} {lo:Nat} {st:Nat→Env×aE}
theorem Text.YP (T:Text P E n ops sP ps M call lo st) {i:Nat}:∀ {j:Nat},i≤j→j≤ops.size→Ext lo (st i).2 (st j).2:=by
 intro j OA
 induction j with
 | zero =>
    intro _;have:i=0:=by omega
    subst this;exact Ext.refl _ _
 |
  succ j ih =>
  intro hj
  rcases Nat.lt_or_ge i (j+1) with h | h
  ·obtain⟨o,p,pi,_,_,_,_,_,v,hv,_⟩:=T.at (i:=j) (by omega)
   exact(ih (by omega) (by omega)).trans (K1 T.ext hv)
  ·have:i=j+1:=by omega
   subst this;exact Ext.refl _ _
theorem Text.YZ (T:Text P E n ops sP ps M call lo st) {i:Nat}:∀ {j:Nat},i≤j→j≤ops.size→∀b,b<(st i).2.length →
  (∀k,i≤k→k<j→∀p pi,ps[k]? = some p→sP[k]? = some pi→fP E p = .write→yP pi.g (st k).1=some true→∃x,Eu p=some x∧iN (ev (st k).1 x)≠some b) →
  (st j).2[b]? = (st i).2[b]? := by
 intro j OA
 induction j with
 | zero =>
      intro _ b _ _;have:i=0:=by omega
      subst this;rfl
 |
  succ j ih =>
  intro hj b hb hk
  rcases Nat.lt_or_ge i (j+1) with h | h
  ·have bA:b<(st j).2.length:=Nat.lt_of_lt_of_le hb (T.len (by omega) (by omega))
   have h1:(st (j+1)).2[b]? = (st j).2[b]? := by
    obtain⟨o,p,pi,_,hp,WA,Dx,_,v,hv,_⟩:=T.at (i:=j) (by omega)
    by_cases hw:fP E p = .write
    ·rcases sW hv with⟨_,_,h⟩ | ⟨hwt,_,h | ⟨f,args,h1,h2⟩⟩
     ·rw[h]
     ·rw[Dx.op] at h
      obtain⟨x,hx,fC⟩:=hk j (by omega) (by omega) p pi hp WA hw hwt
      exact afH h hw hx fC bA
     ·rw[Dx.op] at h1
      obtain⟨x,hx,fC⟩:=hk j (by omega) (by omega) p pi hp WA hw hwt
      rcases sB h1 with⟨g,as,rfl⟩ | ⟨g,as,rfl⟩<;>cases hx
    ·exact T.apS (by omega) hp hw b bA
   rw[h1]
   exact ih (by omega) (by omega) b hb fun k hk1 hk2=>hk k hk1 (by omega)
  ·have:i=j+1:=by omega
   subst this;rfl
theorem Text.same (T:Text P E n ops sP ps M call lo st) {i j:Nat} (OA:i≤j) (hj:j≤ops.size) (hk:∀k,i≤k→k<j→∀p,ps[k]? = some p→fP E p ≠ .write):∀b,b<(st i).2.length→(st j).2[b]? = (st i).2[b]? :=
 fun b hb=>T.YZ OA hj b hb fun k h1 h2 p _ hp _ hw _=>absurd hw (hk k h1 h2 p hp)
theorem Text.Pl (T:Text P E n ops sP ps M call lo st) {i t:Nat}:∀ {j:Nat},i≤j→j≤ops.size→(∀k o,i≤k→k<j→ops[k]? = some o→o.dst≠some t)→(st j).1 t=(st i).1 t:=by
 intro j OA
 induction j with
 | zero =>
      intro _ _;have:i=0:=by omega
      subst this;rfl
 |
  succ j ih =>
  intro hj hk
  rcases Nat.lt_or_ge i (j+1) with h | h
  ·obtain⟨o,p,pi,ho,hp,WA,Dx,_,v,hv,he⟩:=T.at (i:=j) (by omega)
   rw[he]
   have fC:=hk j o (by omega) (by omega) ho
   have h1:put (st j).1 o.dst v t=(st j).1 t:=by
    cases hd:o.dst with
    | none=>rfl
    |
     some d =>
     rw[hd] at fC
     show (if t=d then v else _)=_
     rw[if_neg (fun e=>fC (by rw[e]))]
   rw[h1]
   exact ih (by omega) (by omega) fun k o hk1 hk2=>hk k o hk1 (by omega)
  ·have:i=j+1:=by omega
   subst this;rfl
end
end Go.PM
namespace Go.PM
theorem xM {M:List Nat} {i j:Nat} (h:i<j):ahead M i j=(M.getD j 0).testBit i:=by
 unfold ahead
 have e1:Nat.max i j=j:=Nat.max_eq_right (by omega)
 have e2:Nat.min i j=i:=Nat.min_eq_left (by omega)
 rw[e1,e2]
theorem ZS {M:List Nat} {i j:Nat} (h:j<i):ahead M i j=(M.getD i 0).testBit j:=by
 unfold ahead
 have e1:Nat.max i j=i:=Nat.max_eq_left (by omega)
 have e2:Nat.min i j=j:=Nat.min_eq_right (by omega)
 rw[e1,e2]
theorem P5 {a:Act} {d t:Nat} {v:Value} (hd:d<a.tmps.size):(a.put (some d) v).tmps.getD t undef=if t=d then v else a.tmps.getD t undef:=by
 show (a.tmps.setIfInBounds d v).getD t undef=_
 rcases Nat.lt_or_ge t a.tmps.size with h | h
 ·by_cases e:t=d
  ·subst e;simp[h]
  ·simp[h,e,Ne.symm e]
 ·have:t≠d:=by omega
  simp[h,this]
theorem FN (a:Act) (d:Option Nat) (v:Value):(a.put d v).tmps.size=a.tmps.size:=by
 cases d<;>simp[Act.put]
theorem Gf (a:Act) (d:Option Nat) (v:Value):(a.put d v).defers=a.defers:=by
 cases d<;>rfl
section
variable {P:Program} {E:AF} {n:Nat} {ops:Array Oper} {sP:List PI} {ps:List mV} {M:List Nat} {call:fV} {lo L0:Nat} {st:Nat→Env×aE}
structure rR (E:AF) (n:Nat) (ops:Array Oper) (ps:List mV) (lo L0:Nat) (st:Nat→Env×aE) (m0:dE) (w0:World) (ds:List Deferred) (S:Nat→Prop) (m:dE) (c:Nat) (a:Act) (w:World):Prop where
 Gq:a.tmps.size=n
 defs:a.defers=ds
 back:∀i o,ops.toList[i]? = some o→S i→∀e∈o.after.toList,Region.binds .any e=true→S e.on
 tm:∀t j,j≤ops.size→(∀i o,ops.toList[i]? = some o→o.dst=some t→(S i↔i<j))→RV m ((st j).1 t) (a.tmps.getD t undef)
 N0:c≤ops.size
 before:∀i p,i<c→ps[i]? = some p→fP E p = .write→S i
 atc:c<ops.size→¬S c∧∃p,ps[c]? = some p∧fP E p = .write
 rel:Rel m L0 (st c).2 w
 tr:Trans lo m0 (st 0).2 w0 m (st c).2 w
 Yr:∀b l,m b=some l→m0 b≠none∨∃i,S i∧i<ops.size∧(st i).2.length≤b∧b<(st (i+1)).2.length
theorem Text.anc (T:Text P E n ops sP ps M call lo st) {S:Nat→Prop} (hS:∀i o,ops.toList[i]? = some o→S i→∀e∈o.after.toList,Region.binds .any e=true→S e.on) {k:Nat} {o:Oper} (ho:ops.toList[k]? = some o)
  (hk:∀e∈o.after.toList,Region.binds .any e=true→S e.on) {i:Nat} (hi:(M.getD k 0).testBit i=true):S i :=
 Tv (fun i o hio=>by
   obtain⟨p,pi,_,_,_,hd,_⟩:=T.ok.each i o hio
   exact(hd rfl).back) (fun i o hio=>by
   obtain⟨p,pi,_,_,_,hd,_⟩:=T.ok.each i o hio
   exact(hd rfl).mask) hS k o ho hk i hi
theorem Text.U2 (T:Text P E n ops sP ps M call lo st) {i:Nat} {p:mV} (hi:i<ops.size) (hp:ps[i]? = some p) (h:fP E p = .pure∨fP E p = .look):(st (i+1)).2=(st i).2:=by
 obtain⟨o,p',pi,_,Cj,_,Dx,Xg,v,hv,_⟩:=T.at hi
 rw[hp] at Cj
 cases Cj
 rcases sW hv with⟨_,_,h'⟩ | ⟨_,_,h' | ⟨f,args,h1,h2⟩⟩
 ·exact h'
 ·rw[Dx.op] at h'
  rcases h with h | h
  ·have:tD p=true:=by
    cases p<;>first | rfl | (cases h;done) | skip
    case sub s x l hh mx=>cases mx<;>cases h
    case call f as=>simp only[fP] at h;split at h<;>cases h
   rw[wZ this] at h'
   exact(Db h').2
  ·exact(Ro h' h (fun _ _ _ _ _=>rfl)).1
 ·exfalso
  rw[Dx.op] at h1
  rcases sB h1 with⟨g,as,rfl⟩ | ⟨g,as,rfl⟩
  ·simp only[fP] at h
   split at h<;>rcases h with h | h<;>cases h
  ·rcases h with h | h<;>cases h
theorem Wq {op:Op} {p:mV} {x:Operand} (h:pF P op=some p) (ht:Eu p=some x):x∈op.operands:=by
 unfold pF at h
 split at h
 case isFalse=>cases h
 cases op with
 |
  load t q =>
  dsimp only at h
  cases hi:lM P t with
  | none=>rw[hi] at h;cases h
  | some u=>rw[hi] at h;cases h;cases ht;simp[Op.operands]
 |
  store t q v =>
  dsimp only at h
  cases hi:P.info? t with
  | none=>rw[hi] at h;cases h
  | some u=>rw[hi] at h;cases h;cases ht;simp[Op.operands]
 |
  slice t y l hh mx =>
  dsimp only at h
  split at h
  ·split at h
   ·cases h;cases ht
   ·cases h
  ·rename_i e _
   cases hi:lM P e with
   | none=>rw[hi] at h;cases h
   | some u=>rw[hi] at h;cases h;cases ht;simp[Op.operands]
  ·cases h
 |
  convert s d y =>
  dsimp only at h
  repeat' (split at h)
  all_goals first
   | (cases h;done)
   | (cases h;cases ht;done)
   | (cases h;cases ht;simp[Op.operands])
 |
  call c =>
  obtain⟨callee,args,ts⟩:=c
  cases callee with
  |
   builtin b =>
   simp only[oA] at h
   repeat' (split at h)
   all_goals first
    | (cases h;done)
    | (cases h;cases ht;done)
    | skip
   all_goals
    cases h
    cases ht
    have hm:x∈args.toList:=by simp_all
    simpa[Op.operands,Call.operands] using hm
  |
   value f =>
   cases f with
   | tmp g'=>cases h;cases ht
   | func g'=>cases h;cases ht
   | _=>cases h
  | invoke r s=>cases h
 |
  _ =>
  exfalso
  dsimp only at h
  try unfold Bk at h
  repeat' (split at h)
  all_goals first
   | contradiction
   | (cases h;done)
   | (cases h;cases ht;done)
   | exact map_none h (by intro y h;cases h;cases ht)
end
end Go.PM
namespace Go.PM
theorem Fk (p:Nat→Prop):∀(d c N:Nat),N-c=d→c≤N→∃c',c≤c'∧c'≤N∧(∀i,c≤i→i<c'→¬p i)∧(c'<N→p c')
 | 0,c,N,hd,hc=>⟨c,Nat.le_refl _,hc,fun i h1 h2=>by omega,fun h=>by omega⟩
 |
  d+1,c,N,hd,hc=>by
  by_cases hp:p c
  ·exact⟨c,Nat.le_refl _,hc,fun i h1 h2=>by omega,fun _=>hp⟩
  ·obtain⟨c',h1,h2,h3,h4⟩:=Fk p d (c+1) N (by omega) (by omega)
   refine⟨c',by omega,h2,fun i hi1 JT => ?_,h4⟩
   rcases Nat.lt_or_ge c i with h | h
   ·exact h3 i h JT
   ·have:i=c:=by omega
    subst this;exact hp
theorem YF {m:dE} {v r:Value} {b:Nat} (h:RV m v r) (hb:iN v=some b):∃l,m b=some l:=by
 cases h<;>first | (cases hb;done) | (cases hb;exact⟨_,by assumption⟩)
section
variable {P:Program} {E:AF} {n:Nat} {ops:Array Oper} {sP:List PI} {ps:List mV} {M:List Nat} {call:fV} {lo L0:Nat} {st:Nat→Env×aE}
 {m0:dE} {w0:World} {ds:List Deferred} {S:Nat→Prop} {m:dE} {c:Nat} {a:Act} {w:World} {k:Nat} {o:Oper} {p:mV} {pi:PI}
structure At (P:Program) (E:AF) (n:Nat) (ops:Array Oper) (sP:List PI) (ps:List mV) (M:List Nat) (S:Nat→Prop) (k:Nat) (o:Oper) (p:mV) (pi:PI):Prop where
 lt:k<ops.size
 eo:ops[k]? = some o
 ep:ps[k]? = some p
 epi:sP[k]? = some pi
 ok:YQ P E n ops.toList k o p pi
 dr:PG E ops.toList ps M k o p pi
 awW:¬S k
 anc:∀i,(M.getD k 0).testBit i=true→S i
 desc:∀i,i<ops.size→S i→(M.getD i 0).testBit k=true→False
theorem At.ah (A:At P E n ops sP ps M S k o p pi) {i:Nat} (hi:i<ops.size) (h:i=k∨ahead M k i=true):S i↔i<k:=by
 rcases Nat.lt_trichotomy i k with h1 | h1 | h1
 ·refine⟨fun _=>h1,fun _ => ?_⟩
  rcases h with h | h
  ·omega
  ·rw[ZS h1] at h;exact A.anc i h
 ·subst h1
  exact⟨fun h=>absurd h A.awW,fun h=>by omega⟩
 ·refine⟨fun hs => ?_,fun h=>by omega⟩
  rcases h with h | h
  ·omega
  ·rw[xM h1] at h;exact absurd h (fun h=>A.desc i hi hs h)
theorem Fc {i:Nat} {oi:Oper} (h:ops.toList[i]? = some oi):i<ops.size:=by
 have:=(List.getElem?_eq_some_iff.1 h).1
 simpa using this
theorem At.reads (A:At P E n ops sP ps M S k o p pi) (I:rR E n ops ps lo L0 st m0 w0 ds S m c a w):∀t∈vU ops.toList o,RV m ((st k).1 t) (a.tmps.getD t undef):=by
 intro t ht
 refine I.tm t k (Nat.le_of_lt A.lt) fun i oi hi hd => ?_
 exact A.ah (Fc hi) (A.dr.NZ t (List.mem_append_right _ ht) i oi hi hd)
theorem At.operand (A:At P E n ops sP ps M S k o p pi) (I:rR E n ops ps lo L0 st m0 w0 ds S m c a w) {x:Operand} (hx:x∈o.op.operands):RV m (ev (st k).1 x) (a.eval x) :=
 TV (Ld A.ok.Wv x hx) fun t ht=>A.reads I t (EO (ht▸hx))
theorem At.pair (T:Text P E n ops sP ps M call lo st) {i j:Nat} {p q:mV} (OA:i<j) (hj:j<ops.size) (hp:ps[i]? = some p) (hq:ps[j]? = some q):∃qi,sP[j]? = some qi∧Ef E ops.toList M i j p q qi.cf:=by
 obtain⟨o,q',qi,_,MR,hqi,_,hd,_⟩:=T.at hj
 rw[hq] at MR
 cases MR
 exact⟨qi,hqi,hd.apP i OA p hp⟩
theorem rR.late (T:Text P E n ops sP ps M call lo st) (I:rR E n ops ps lo L0 st m0 w0 ds S m c a w) {i:Nat} {q:mV} (hi:c<i) (hn:i<ops.size) (hS:S i) (hq:ps[i]? = some q):fP E q = .pure∨fP E q = .look:=by
 obtain⟨hcS,pc,hpc,PU⟩:=I.atc (by omega)
 obtain⟨qi,_,iT⟩:=At.pair T hi hn hpc hq
 unfold Ef at iT
 rw[PU] at iT
 obtain⟨oi,_,_,hoi,_⟩:=T.at hn
 have QM:ops.toList[i]? = some oi:=by simpa using hoi
 have fin:ahead M c i=true→False:=fun h=>by
  rw[xM hi] at h
  exact hcS (T.anc I.back QM (I.back i oi QM hS) h)
 cases mX:fP E q with
 | pure=>exact .inl rfl
 | look=>exact .inr rfl
 | quiet=>rw[mX] at iT;exact absurd iT fin
 | write=>rw[mX] at iT;exact absurd iT fin
theorem rR.NZ (T:Text P E n ops sP ps M call lo st) (I:rR E n ops ps lo L0 st m0 w0 ds S m c a w) (A:At P E n ops sP ps M S k o p pi) {m':dE} {v rv:Value} (hm:∀b l,m b=some l→m' b=some l) (hv:RV m' v rv)
  (he:(st (k+1)).1=put (st k).1 o.dst v):∀t j,j≤ops.size→(∀i o,ops.toList[i]? = some o→o.dst=some t→((i=k∨S i)↔i<j))→RV m' ((st j).1 t) ((a.put o.dst rv).tmps.getD t undef):=by
 intro t j hj hw
 have Dx:ops.toList[k]? = some o:=by simpa using A.eo
 cases hd:o.dst with
 |
  none =>
  show RV m' _ (a.tmps.getD t undef)
  refine(I.tm t j hj fun i oi hi Zb => ?_).mono hm
  have fC:i≠k:=fun e=>by subst e;rw[Dx] at hi;cases hi;rw[hd] at Zb;cases Zb
  rw[←hw i oi hi Zb]
  simp[fC]
 |
  some d =>
  rw[P5 (by rw[I.Gq];exact A.ok.bound d hd)]
  by_cases htd:t=d
  ·subst htd
   rw[if_pos rfl]
   have hkj:k<j:=(hw k o Dx hd).1 (.inl rfl)
   have e1:(st j).1 t=(st (k+1)).1 t:=by
    refine T.Pl hkj hj fun i oi hi1 JT hoi Zb => ?_
    have QM:ops.toList[i]? = some oi:=by simpa using hoi
    have hS:=(hw i oi QM Zb).2 JT
    have hik:i≠k:=by omega
    have:=(A.ah (Fc QM) (A.dr.NZ t (List.mem_append_left _ (by rw[hd];simp)) i oi QM Zb)).1 (hS.resolve_left hik)
    omega
   rw[e1,he,hd]
   show RV m' (if t=t then v else _) rv
   rw[if_pos rfl]
   exact hv
  ·rw[if_neg htd]
   refine(I.tm t j hj fun i oi hi Zb => ?_).mono hm
   have fC:i≠k:=fun e=>by subst e;rw[Dx] at hi;cases hi;rw[hd] at Zb;cases Zb;exact htd rfl
   rw[←hw i oi hi Zb]
   simp[fC]
theorem rR.Zs (I:rR E n ops ps lo L0 st m0 w0 ds S m c a w) (A:At P E n ops sP ps M S k o p pi) (hr:∀e∈o.after.toList,Region.binds .any e=true→S e.on) :
  ∀i oi,ops.toList[i]? = some oi→(i=k∨S i)→∀e∈oi.after.toList,Region.binds .any e=true→(e.on=k∨S e.on):=by
 intro i oi hi hS e he hb
 rcases hS with rfl | hS
 ·have:ops.toList[i]? = some o:=by simpa using A.eo
  rw[this] at hi
  cases hi
  exact .inr (hr e he hb)
 ·exact .inr (I.back i oi hi hS e he hb)
theorem GO (T:Text P E n ops sP ps M call lo st) {i j:Nat} {x:Operand} (OA:i≤j) (hj:j≤ops.size) (h:DM ops.toList i j x=true):ev (st j).1 x=ev (st i).1 x:=by
 cases x with
 |
  tmp t =>
  refine T.Pl OA hj fun q oq h1 h2 hoq hd => ?_
  have lF:=List.all_eq_true.1 h oq (by
   have avQ:ops.toList[q]? = some oq:=by simpa using hoq
   rw[List.mem_iff_getElem?]
   refine⟨q-i,?_⟩
   rw[List.getElem?_drop,List.getElem?_take,show i+(q-i)=q by omega,if_pos h2,avQ])
  simp[hd] at lF
 | const v=>rfl
 | global g=>rfl
 | func f=>rfl
theorem rR.look (T:Text P E n ops sP ps M call lo st) (I:rR E n ops ps lo L0 st m0 w0 ds S m c a w) (A:At P E n ops sP ps M S k o p pi) (Bi:∀b,(st 0).2.length≤b→b<(st ops.size).2.length→m0 b=none)
  (mX:fP E p = .pure∨fP E p = .look) {v:Value} (hv:yO call lo pi (st k).1 (st k).2=some (v,(st (k+1)).2)):yO call lo pi (st k).1 (st c).2=some (v,(st c).2):=by
 rcases sW hv with⟨hw,rfl,_⟩ | ⟨hw,PQ,hp | ⟨f,args,hp,_⟩⟩
 ·unfold yO
  rw[hw]
 ·unfold yO
  rw[hw]
  simp only[PQ,if_true]
  have key:pop lo pi.op (st k).1 (st c).2=some (.val v (st c).2):=by
   rw[A.ok.op] at hp ⊢
   rcases mX with mX | mX
   ·have hlp:tD p=true:=by
     cases p<;>first | rfl | (cases mX;done) | skip
     case sub s x l hh mx=>cases mx<;>cases mX
     case call f as=>simp only[fP] at mX;split at mX<;>cases mX
    rw[wZ hlp] at hp ⊢
    rw[(Db hp).1]
    rfl
   ·refine(Ro hp mX fun x hx b hb bA => ?_).2
    rcases Nat.lt_or_ge c k with hck | hck
    ·obtain⟨hcS,pc,hpc,PU⟩:=I.atc (Nat.lt_trans hck A.lt)
     have J9:b<(st c).2.length:=by
      rcases Nat.lt_or_ge b (st c).2.length with h | h
      ·exact h
      ·exfalso
       obtain⟨l,hl⟩:=YF (A.operand I (Wq A.ok.Wv hx)) hb
       have h0:=T.len (i:=0) (j:=c) (Nat.zero_le _) I.N0
       have h1:=T.len (i:=k) (j:=ops.size) (Nat.le_of_lt A.lt) (Nat.le_refl _)
       rcases I.Yr b l hl with h2 | ⟨i,hiS,cP,hi1,JT⟩
       ·exact h2 (Bi b (by omega) (by omega))
       ·rcases Nat.lt_trichotomy i c with h3 | h3 | h3
        ·have:=T.len (i:=i+1) (j:=c) h3 I.N0
         omega
        ·subst h3;exact hcS hiS
        ·obtain⟨oi,qi,pii,_,hqi,_⟩:=T.at cP
         have:=I.late T h3 cP hiS hqi
         rw[T.U2 cP hqi this] at JT
         omega
     refine(T.YZ (Nat.le_of_lt hck) (Nat.le_of_lt A.lt) b J9 fun j hj1 Yv q qi hq hqi hqw ahM => ?_).symm
     obtain⟨pi',apG,iT⟩:=At.pair T Yv A.lt hq A.ep
     rw[A.epi] at apG
     cases apG
     unfold Ef at iT
     rw[hqw,mX] at iT
     rcases iT with h | ⟨xa,xb,ha,vJ,hun,LH⟩
     ·exfalso
      rw[xM Yv] at h
      have hjS:=A.anc j h
      rcases Nat.lt_or_ge c j with h3 | h3
      ·rcases I.late T h3 (Nat.lt_trans Yv A.lt) hjS hq with h4 | h4<;>(rw[hqw] at h4;cases h4)
      ·have:j=c:=by omega
       subst this;exact hcS hjS
     ·rw[hx] at vJ
      cases vJ
      refine⟨xa,ha,fun e => ?_⟩
      have hk:=List.all_eq_true.1 PQ _ LH
      unfold Az at hk
      rw[GO T (Nat.le_of_lt Yv) (Nat.le_of_lt A.lt) hun,e,hb] at hk
      simp at hk
    ·refine T.YZ hck I.N0 b bA fun j hj1 Yv q qi hq hqi hqw ahM => ?_
     have Yl:k<j:=by
      rcases Nat.lt_or_ge k j with h | h
      ·exact h
      ·have:j=k:=by omega
       subst this
       rw[A.ep] at hq
       cases hq
       rw[hqw] at mX
       cases mX
     have hjn:j<ops.size:=Nat.lt_of_lt_of_le Yv I.N0
     obtain⟨oj,q',qi',hoj,MR,Zj,aCg,_,vj,hvj,_⟩:=T.at hjn
     rw[hq] at MR
     cases MR
     rw[hqi] at Zj
     cases Zj
     obtain⟨qi',Zj,iT⟩:=At.pair T Yl hjn A.ep hq
     rw[hqi] at Zj
     cases Zj
     unfold Ef at iT
     rw[hqw,mX] at iT
     rcases iT with h | ⟨xa,xb,ha,vJ,hun,LH⟩
     ·exfalso
      rw[xM Yl] at h
      exact A.desc j hjn (I.before j q Yv hq hqw) h
     ·rw[hx] at ha
      cases ha
      refine⟨xb,vJ,fun e => ?_⟩
      have awH:qi.cf.all (Az (st j).1)=true:=by
       rcases sW hvj with⟨h,_⟩ | ⟨_,h,_⟩
       ·rw[ahM] at h;cases h
       ·exact h
      have hk:=List.all_eq_true.1 awH _ LH
      unfold Az at hk
      rw[GO T (Nat.le_of_lt Yl) (Nat.le_of_lt hjn) hun,e,hb] at hk
      simp at hk
  rw[key]
 ·exfalso
  rw[A.ok.op] at hp
  rcases sB hp with⟨g,as,rfl⟩ | ⟨g,as,rfl⟩
  ·simp only[fP] at mX
   split at mX<;>rcases mX with h | h<;>cases h
  ·rcases mX with h | h<;>cases h
end
end Go.PM
namespace Go.PM
section
variable {P:Program} {E:AF} {n:Nat} {ops:Array Oper} {sP:List PI} {ps:List mV} {M:List Nat} {call:fV} {lo L0:Nat} {st:Nat→Env×aE}
 {m0:dE} {w0:World} {ds:List Deferred}
theorem Gp {H:aE} {b:Nat} (h:H.length≤b):¬Live H b:=fun hl=>by have:=hl.lt;omega
theorem acB {S:Nat→Prop} {m:dE} {c:Nat} {a:Act} {w:World} {k:Nat} {o:Oper} (T:Text P E n ops sP ps M call lo st) (mZ:wC P L0 call) (eQ:L0≤lo) (Af:L0≤(st 0).2.length)
  (Bi:∀b,(st 0).2.length≤b→b<(st ops.size).2.length→m0 b=none) (I:rR E n ops ps lo L0 st m0 w0 ds S m c a w) (ho:ops[k]? = some o) (hkS:¬S k)
  (hr:∀e∈o.after.toList,Region.binds .any e=true→S e.on) {K:Act→World→Prop} {Q:Exit→Act→World→Prop}
  (hK:∀m' c' a' w',rR E n ops ps lo L0 st m0 w0 ds (fun i=>i=k∨S i) m' c' a' w'→K a' w'):wpOp P ops Q k K a w:=by
 have bA:k<ops.size:=(Array.getElem?_eq_some_iff.1 ho).1
 obtain⟨o',p,pi,ho',hp,WA,Dx,Xg,v,hv,he⟩:=T.at bA
 rw[ho] at ho'
 cases ho'
 have ho2:ops.toList[k]? = some o:=by simpa using ho
 have A:At P E n ops sP ps M S k o p pi:=⟨bA,ho,hp,WA,Dx,Xg,hkS,fun i hi=>T.anc I.back ho2 hr hi,fun i hi hS hb=>by
  have hio:ops.toList[i]? = some ops[i]:=by simp[hi]
  exact hkS (T.anc I.back hio (I.back i _ hio hS) hb)⟩
 have Uf:=A.reads I
 have aiN:=T.len (i:=0) (j:=c) (Nat.zero_le _) I.N0
 have aqJ:=T.len (i:=c) (j:=ops.size) I.N0 (Nat.le_refl _)
 have aoR:=T.len (i:=0) (j:=k) (Nat.zero_le _) (Nat.le_of_lt bA)
 have atT:=T.len (i:=k+1) (j:=ops.size) bA (Nat.le_refl _)
 have avT:=T.aqS bA
 have hfk:∀b,(st k).2.length≤b→b<(st (k+1)).2.length→m b=none:=by
  intro b h1 h2
  cases hm:m b with
  | none=>rfl
  |
   some l =>
   exfalso
   rcases I.Yr b l hm with h3 | ⟨i,hiS,cP,hi1,JT⟩
   ·exact h3 (Bi b (by omega) (by omega))
   ·rcases Nat.lt_trichotomy i k with h3 | h3 | h3
    ·have:=T.len (i:=i+1) (j:=k) h3 (Nat.le_of_lt bA)
     omega
    ·subst h3;exact hkS hiS
    ·have:=T.len (i:=k+1) (j:=i) h3 (Nat.le_of_lt cP)
     omega
 have P0:(fP E p = .pure∨fP E p = .look)→wpOp P ops Q k K a w:=by
  intro mX
  have hq:pi.quiet=false:=by
   rw[Xg.quiet]
   rcases mX with h | h<;>rw[h]
  have hw:fP E p ≠ .write:=by rcases mX with h | h<;>(rw[h];exact fun h=>by cases h)
  refine PK ho Dx (fun h=>by rw[hq] at h;cases h) (I.look T A Bi mX hv) Uf I.rel eQ (Nat.le_trans Af aiN) (fun b h1 h2=>by omega) mZ fun m' rv w' UB hR hT => ?_
  rw[hq] at hT
  simp only[Bool.false_eq_true,if_false] at hT
  have hmm:m'=m:=by
   funext b
   cases hm:m b with
   | some l=>exact hT.ext b l hm
   |
    none =>
    cases hm':m' b with
    | none=>rfl
    | some l=>have:=(hT.new b l hm' hm).1;omega
  subst hmm
  refine hK m' c _ w' ⟨by rw[FN];exact I.Gq,by rw[Gf];exact I.defs,I.Zs A hr,I.NZ T A (fun _ _ h=>h) UB he,I.N0,fun i q h1 h2 h3 => .inr (I.before i q h1 h2 h3),?_,hR,?_,?_⟩
  ·intro h
   obtain⟨h1,q,h2,h3⟩:=I.atc h
   refine⟨fun hS=>hS.elim (fun e => ?_) h1,q,h2,h3⟩
   subst e
   rw[hp] at h2
   cases h2
   exact hw h3
  ·exact Trans.trans (fun b h1 h2=>Bi b h1 (by omega)) (T.YP (Nat.zero_le _) I.N0) (Ext.refl _ _) I.tr hT
  ·intro b l hb
   exact(I.Yr b l hb).imp id fun⟨i,h1,h2⟩=>⟨i,.inr h1,h2⟩
 cases mX:fP E p with
 |
  write =>
  have hkc:k=c:=by
   rcases Nat.lt_trichotomy k c with h | h | h
   ·exact absurd (I.before k p h hp mX) hkS
   ·exact h
   ·exfalso
    obtain⟨hcS,pc,hpc,PU⟩:=I.atc (by omega)
    obtain⟨qi,_,iT⟩:=At.pair T h bA hpc hp
    unfold Ef at iT
    rw[PU,mX] at iT
    simp only at iT
    rw[xM h] at iT
    exact hcS (A.anc c iT)
  subst hkc
  refine PK ho Dx (fun hq=>by rw[Xg.quiet,mX] at hq;cases hq) hv Uf I.rel eQ (Nat.le_trans Af aiN) hfk mZ fun m' rv w' UB hR hT => ?_
  have hq:pi.quiet=false:=by rw[Xg.quiet,mX]
  rw[hq] at hT
  simp only[Bool.false_eq_true,if_false] at hT
  obtain⟨c',hc1,Z7,hc3,hc4⟩:=Fk (fun i=>∃q,ps[i]? = some q∧fP E q = .write) _ (k+1) ops.size rfl bA
  have VD:∀b,b<(st (k+1)).2.length→(st c').2[b]? = (st (k+1)).2[b]? := T.same hc1 Z7 fun i h1 h2 q hq hw=>hc3 i h1 h2 ⟨q,hq,hw⟩
  have auF:=T.len hc1 Z7
  have apT:=T.len (i:=c') (j:=ops.size) Z7 (Nat.le_refl _)
  have aoP:∀b l,m' b=some l→m0 b≠none∨∃i,(i=k∨S i)∧i<ops.size∧(st i).2.length≤b∧b<(st (i+1)).2.length:=by
   intro b l hb
   cases hm:m b with
   | some l'=>exact(I.Yr b l' hm).imp id fun⟨i,h1,h2⟩=>⟨i,.inr h1,h2⟩
   | none=>exact .inr ⟨k,.inl rfl,bA,(hT.new b l hb hm).1⟩
  have alX:∀b,(st (k+1)).2.length≤b→b<(st c').2.length→m' b=none:=by
   intro b h1 h2
   cases hm:m' b with
   | none=>rfl
   |
    some l =>
    exfalso
    rcases aoP b l hm with h3 | ⟨i,hiS,cP,hi1,JT⟩
    ·exact h3 (Bi b (by omega) (by omega))
    ·rcases Nat.lt_trichotomy i k with h3 | h3 | h3
     ·have:=T.len (i:=i+1) (j:=k) h3 (Nat.le_of_lt bA)
      omega
     ·subst h3;omega
     ·obtain⟨oi,qi,pii,_,hqi,_⟩:=T.at cP
      have:=I.late T h3 cP (hiS.resolve_left (by omega)) hqi
      rw[T.U2 cP hqi this] at JT
      omega
  have hTT:Trans lo m0 (st 0).2 w0 m' (st (k+1)).2 w':=Trans.trans (fun b h1 h2=>Bi b h1 (by omega)) (T.YP (Nat.zero_le _) (Nat.le_of_lt bA)) (T.YP (Nat.le_succ _) bA) I.tr hT
  refine hK m' c' _ w' ⟨by rw[FN];exact I.Gq,by rw[Gf];exact I.defs,I.Zs A hr,I.NZ T A hT.ext UB he,Z7,?_,?_,hR.grow VD alX,?_,aoP⟩
  ·intro i q hi hq hw
   rcases Nat.lt_trichotomy i k with h | h | h
   ·exact .inr (I.before i q h hq hw)
   ·exact .inl h
   ·exact absurd ⟨q,hq,hw⟩ (hc3 i h hi)
  ·intro h
   obtain⟨q,hq,hw⟩:=hc4 h
   refine⟨fun hS => ?_,q,hq,hw⟩
   rcases hS with hS | hS
   ·omega
   ·rcases I.late T (by omega) h hS hq with h4 | h4<;>(rw[hw] at h4;cases h4)
  ·refine⟨hTT.ext,fun b l hb hn => ?_,hTT.size,hTT.cB,hTT.same⟩
   obtain⟨⟨h1,h2⟩,h3⟩:=hTT.new b l hb hn
   refine⟨⟨h1,by omega⟩,?_⟩
   rcases h3 with h3 | h3 | h3
   ·exact .inl h3
   ·exact .inr (.inl fun hl=>h3 ((iG (VD b h2)).1 hl))
   ·exact .inr (.inr h3)
 |
  quiet =>
  have hkc:k<c:=by
   rcases Nat.lt_or_ge k c with h | h
   ·exact h
   ·exfalso
    rcases Nat.lt_or_ge c k with h' | h'
    ·obtain⟨hcS,pc,hpc,PU⟩:=I.atc (by omega)
     obtain⟨qi,_,iT⟩:=At.pair T h' bA hpc hp
     unfold Ef at iT
     rw[PU,mX] at iT
     simp only at iT
     rw[xM h'] at iT
     exact hcS (A.anc c iT)
    ·have:k=c:=by omega
     subst this
     obtain⟨_,pc,hpc,PU⟩:=I.atc bA
     rw[hp] at hpc
     cases hpc
     rw[mX] at PU
     cases PU
  have Wr:∀i,k<i→i<c→∀q,ps[i]? = some q→fP E q ≠ .write:=by
   intro i h1 h2 q hq hw
   have cP:i<ops.size:=Nat.lt_of_lt_of_le h2 I.N0
   obtain⟨qi,_,iT⟩:=At.pair T h1 cP hp hq
   unfold Ef at iT
   rw[mX,hw] at iT
   simp only at iT
   rw[xM h1] at iT
   exact A.desc i cP (I.before i q h2 hq hw) iT
  have MF:∀b,b<(st (k+1)).2.length→(st c).2[b]? = (st (k+1)).2[b]? := T.same hkc I.N0 fun i h1 h2 q hq=>Wr i h1 h2 q hq
  have hs0:∀b,b<(st k).2.length→(st c).2[b]? = (st k).2[b]? := T.same (Nat.le_of_lt hkc) I.N0 fun i h1 h2 q hq=>by
   rcases Nat.lt_or_ge k i with h | h
   ·exact Wr i h h2 q hq
   ·have:i=k:=by omega
    subst this
    rw[hp] at hq
    cases hq
    rw[mX]
    exact fun h=>by cases h
  have azI:=T.len (i:=k+1) (j:=c) hkc I.N0
  refine PK ho Dx (fun _=>mX) hv Uf (I.rel.restrict hs0) eQ (Nat.le_trans Af aoR) hfk mZ fun m' rv w' UB hR hT => ?_
  have hq:pi.quiet=true:=by rw[Xg.quiet,mX]
  rw[hq] at hT
  simp only[if_true] at hT
  have IK:∀rb,rb<w.heap.size→w'.heap[rb]? = w.heap[rb]? := fun rb C3=>hT.cB rb C3 fun b l hb _ hl=>absurd hl (Gp hb)
  have rO:∀b l,m' b=some l→m b=none→((st k).2.length≤b∧b<(st (k+1)).2.length)∧(w.heap.size≤l.rb∨¬Live (st (k+1)).2 b):=by
   intro b l h1 h2
   obtain⟨h3,h4⟩:=hT.new b l h1 h2
   refine⟨h3,?_⟩
   rcases h4 with h4 | h4 | ⟨b0,l0,g1,_,g3,_⟩
   ·exact .inl h4
   ·exact .inr h4
   ·exact absurd g3 (Gp g1)
  have apK:∀b l,m b=some l→l.rb<w.heap.size:=by
   intro b l hb
   obtain⟨arr,e,fz,h1,_⟩:=I.rel.valid b l hb
   exact(Array.getElem?_eq_some_iff.1 h1).1
  have Ny:∀rb j,rb<w.heap.size→w'.cell? ⟨rb,j,none⟩=w.cell? ⟨rb,j,none⟩:=by
   intro rb j C3
   unfold World.cell?
   simp only[IK rb C3]
  have Bl:∀b l,m' b=some l→(st (k+1)).2.length≤b→m b=some l:=by
   intro b l hb h
   cases hm:m b with
   | some l'=>have:=hT.ext b l' hm;rw[hb] at this;exact this.symm
   | none=>have:=(rO b l hb hm).1.2;omega
  refine hK m' c _ w' ⟨by rw[FN];exact I.Gq,by rw[Gf];exact I.defs,I.Zs A hr,I.NZ T A hT.ext UB he,I.N0,fun i q h1 h2 h3 => .inr (I.before i q h1 h2 h3),?_,⟨hR.valid,?_,?_,?_⟩,?_,?_⟩
  ·intro h
   obtain⟨h1,q,h2,h3⟩:=I.atc h
   exact⟨fun hS=>hS.elim (fun e=>by omega) h1,q,h2,h3⟩
  ·intro b l cs e pp hm hb
   rcases Nat.lt_or_ge b (st (k+1)).2.length with h | h
   ·exact hR.row b l cs e pp hm (by rw[←MF b h];exact hb)
   ·have hmo:=Bl b l hm h
    obtain⟨h1,h2,h3,h4⟩:=I.rel.row b l cs e pp hmo hb
    refine⟨h1,h2,h3,fun i hi => ?_⟩
    obtain⟨rv',g1,g2,g3⟩:=h4 i hi
    exact⟨rv',by rw[Ny _ _ (apK b l hmo)];exact g1,g2.mono hT.ext,g3⟩
  ·intro b1 b2 l1 l2 Ee h1 h2 Ds Gs C3
   have fresh:∀b b' l l',m' b=some l→m b=none→m b'=some l'→Live (st c).2 b→l.rb=l'.rb→False:=by
    intro b b' l l' g1 g2 g3 g4 g5
    obtain⟨⟨_,g6⟩,g7⟩:=rO b l g1 g2
    rcases g7 with g7 | g7
    ·have:=apK b' l' g3;omega
    ·exact g7 ((iG (MF b g6)).1 g4)
   cases OI:m b1 with
   |
    some l1' =>
    cases hm2:m b2 with
    |
     some l2' =>
     have e1:l1'=l1:=by have:=hT.ext b1 l1' OI;rw[h1] at this;injection this with this;exact this.symm
     have e2:l2'=l2:=by have:=hT.ext b2 l2' hm2;rw[h2] at this;injection this with this;exact this.symm
     subst e1 e2
     exact I.rel.inj b1 b2 _ _ Ee OI hm2 Ds Gs C3
    |
     none =>
     have e1:l1'=l1:=by have:=hT.ext b1 l1' OI;rw[h1] at this;injection this with this;exact this.symm
     subst e1
     exact(fresh b2 b1 _ _ h2 hm2 OI Gs C3.symm).elim
   |
    none =>
    cases hm2:m b2 with
    |
     some l2' =>
     have e2:l2'=l2:=by have:=hT.ext b2 l2' hm2;rw[h2] at this;injection this with this;exact this.symm
     subst e2
     exact(fresh b1 b2 _ _ h1 OI hm2 Ds C3).elim
    |
     none =>
     have g1:=(rO b1 l1 h1 OI).1.2
     have g2:=(rO b2 l2 h2 hm2).1.2
     exact hR.inj b1 b2 l1 l2 Ee h1 h2 ((iG (MF b1 g1)).1 Ds) ((iG (MF b2 g2)).1 Gs) C3
  ·intro x hx
   refine⟨(hR.Dv x hx).1,fun b l hb hm hl => ?_⟩
   obtain⟨⟨e0,fz0,q1⟩,q2⟩:=I.rel.Dv x hx
   cases OI:m b with
   |
    some l' =>
    have e1:l'=l:=by have:=hT.ext b l' OI;rw[hm] at this;injection this with this;exact this.symm
    subst e1
    exact q2 b l' hb OI hl
   |
    none =>
    obtain⟨⟨_,g6⟩,g7⟩:=rO b l hm OI
    rcases g7 with g7 | g7
    ·have:=(Array.getElem?_eq_some_iff.1 q1).1
     omega
    ·exact(g7 ((iG (MF b g6)).1 hl)).elim
  ·refine⟨fun b l hb=>hT.ext b l (I.tr.ext b l hb),fun b l hb hn => ?_,Nat.le_trans I.tr.size hT.size,fun rb C3 hk => ?_,hT.same.1.trans I.tr.same.1,hT.same.2.1.trans I.tr.same.2.1,hT.same.2.2.trans I.tr.same.2.2⟩
   ·cases hm:m b with
    |
     some l' =>
     have e1:l'=l:=by have:=hT.ext b l' hm;rw[hb] at this;injection this with this;exact this.symm
     subst e1
     exact I.tr.new b l' hm hn
    |
     none =>
     obtain⟨⟨g1,g2⟩,g3⟩:=rO b l hb hm
     refine⟨⟨by omega,by omega⟩,?_⟩
     rcases g3 with g3 | g3
     ·exact .inl (Nat.le_trans I.tr.size g3)
     ·exact .inr (.inl fun hl=>g3 ((iG (MF b g2)).1 hl))
   ·rw[IK rb (Nat.lt_of_lt_of_le C3 I.tr.size),I.tr.cB rb C3 hk]
  ·intro b l hb
   cases hm:m b with
   | some l'=>exact(I.Yr b l' hm).imp id fun⟨i,h1,h2⟩=>⟨i,.inr h1,h2⟩
   | none=>exact .inr ⟨k,.inl rfl,bA,(rO b l hb hm).1⟩
 | pure=>exact P0 (.inl mX)
 | look=>exact P0 (.inr mX)
end
end Go.PM
namespace Go.PM
section
variable {P:Program} {E:AF} {n:Nat} {call:fV} {lo L0:Nat}
theorem Trans.fresh {m m':dE} {H H1 H2:aE} {w w':World} (h:Trans lo m H w m' H1 w') (h1:H.length≤H1.length) (hf:∀b,H.length≤b→b<H2.length→m b=none):∀b,H1.length≤b→b<H2.length→m' b=none:=by
 intro b Ee hb2
 cases hm:m' b with
 | none=>rfl
 |
  some l =>
  exfalso
  have hn:=hf b (by omega) hb2
  have:=(h.new b l hm hn).1
  omega
structure Ie (n L0:Nat) (m:dE) (ρ:Env) (H:aE) (a:Act) (w:World):Prop where
 Gq:a.tmps.size=n
 defs:a.defers=[]
 env:∀t,RV m (ρ t) (a.tmps.getD t undef)
 rel:Rel m L0 H w
theorem Om {p q:Nat→Bool}:∀ {l:List Nat} {i:Nat},(∀x∈l,q x=true→p x=true)→i∈l→p i=true→q i=false→l.countP q<l.countP p
 |
  x::l,i,h,hi,hp,hq=>by
  rw[List.countP_cons,List.countP_cons]
  have hle:l.countP q≤l.countP p:=List.countP_mono_left fun x hx=>h x (List.mem_cons_of_mem _ hx)
  rcases List.mem_cons.1 hi with rfl | hi
  ·rw[if_neg (by simp[hq]),if_pos hp];omega
  ·have:=Om (fun x hx=>h x (List.mem_cons_of_mem _ hx)) hi hp hq
   have:(if q x=true then 1 else 0)≤(if p x=true then 1 else 0):=by
    by_cases hqx:q x=true
    ·rw[if_pos hqx,if_pos (h x List.mem_cons_self hqx)];omega
    ·rw[if_neg hqx];omega
   omega
theorem KQ {listed:Array Bool} {k i:Nat} (hk:k<listed.size):(listed.setIfInBounds k true).getD i false=true↔(i=k∨listed.getD i false=true):=by
 rcases Nat.lt_or_ge i listed.size with h | h
 ·by_cases e:i=k
  ·subst e;simp[h]
  ·simp[h,e,Ne.symm e]
 ·have:i≠k:=by omega
  simp[h,this]
theorem ahC {ops:Array Oper} {sP:List PI} {ps:List mV} {M:List Nat} {st:Nat→Env×aE} {m0:dE} {w0:World} (T:Text P E n ops sP ps M call lo st) (mZ:wC P L0 call) (eQ:L0≤lo) (Af:L0≤(st 0).2.length)
  (Bi:∀b,(st 0).2.length≤b→b<(st ops.size).2.length→m0 b=none) {Q:Exit→Act→World→Prop}
  (hQ:∀m' a' w',Ie n L0 m' (st ops.size).1 (st ops.size).2 a' w'→Trans lo m0 (st 0).2 w0 m' (st ops.size).2 w'→Q .normal a' w') :
  ∀(fuel:Nat) (listed:Array Bool) (m:dE) (c:Nat) (a:Act) (w:World),listed.size=ops.size→((List.range ops.size).countP fun i => !listed.getD i false)≤fuel →
  rR E n ops ps lo L0 st m0 w0 [] (fun i=>listed.getD i false=true) m c a w→wpAny P .any ops Q fuel listed a w:=by
 have fin:∀(listed:Array Bool) (m:dE) (c:Nat) (a:Act) (w:World),listed.size=ops.size→(Region.ready .any ops listed=[])→rR E n ops ps lo L0 st m0 w0 [] (fun i=>listed.getD i false=true) m c a w→Q .normal a w:=by
  intro listed m c a w hs hr I
  have all:∀i,i<ops.size→listed.getD i false=true:=by
   intro i
   induction i using Nat.strongRecOn with
   |
    _ i ih =>
    intro hi
    cases hl:listed.getD i false with
    | true=>rfl
    |
     false =>
     exfalso
     obtain⟨o,p,pi,ho,_,_,_,Xg,_⟩:=T.at hi
     have:i∈Region.ready .any ops listed:=by
      rw[mem_ready]
      refine⟨?_,o,ho,fun e he hb => ?_⟩
      ·have Ua:i<listed.size:=by omega
       simpa[Ua] using hl
      ·have:=Xg.back e (by simpa using he) hb
       exact ih e.on this (by omega)
     rw[hr] at this
     cases this
  have hcN:c=ops.size:=by
   rcases Nat.lt_or_ge c ops.size with h | h
   ·exact absurd (all c h) (I.atc h).1
   ·have:=I.N0;omega
  subst hcN
  exact hQ m a w ⟨I.Gq,I.defs,fun t=>I.tm t ops.size (Nat.le_refl _) fun i o hi _=>⟨fun _=>Fc hi,fun h=>all i h⟩,I.rel⟩ I.tr
 intro fuel
 induction fuel with
 |
  zero =>
  intro listed m c a w hs hc I
  have hr:Region.ready .any ops listed=[]:=by
   rw[List.eq_nil_iff_forall_not_mem]
   intro i hi
   have oJ:=mem_ready.1 hi
   obtain⟨h1,o,ho,_⟩:=oJ
   have bA:i<ops.size:=(Array.getElem?_eq_some_iff.1 ho).1
   have h0:((List.range ops.size).countP fun i => !listed.getD i false)=0:=by omega
   rw[List.countP_eq_zero] at h0
   have:=h0 i (List.mem_range.2 bA)
   have Ua:i<listed.size:=by omega
   simp[Ua] at this h1
   rw[h1] at this
   cases this
  exact⟨hr,fin listed m c a w hs hr I⟩
 |
  succ fuel ih =>
  intro listed m c a w hs hc I
  refine⟨fun hr=>fin listed m c a w hs hr I,fun k hk => ?_⟩
  obtain⟨h1,o,ho,hb⟩:=mem_ready.1 hk
  have bA:k<ops.size:=(Array.getElem?_eq_some_iff.1 ho).1
  have hkl:k<listed.size:=by omega
  have hkf:listed.getD k false=false:=by simpa[hkl] using h1
  refine acB T mZ eQ Af Bi I ho (by rw[hkf];exact fun h=>by cases h) (fun e he hbd=>hb e (by simpa using he) hbd) fun m' c' a' w' I'=>ih _ m' c' a' w' (by simpa using hs) ?_ ?_
  ·have:((List.range ops.size).countP fun i => !(listed.setIfInBounds k true).getD i false)<((List.range ops.size).countP fun i => !listed.getD i false):=by
    refine Om (i:=k) (fun x _ hx => ?_) (List.mem_range.2 bA) (by rw[hkf];rfl) ?_
    ·cases hlx:listed.getD x false with
     | false=>rfl
     |
      true =>
      have:=(KQ (i:=x) hkl).2 (.inr hlx)
      rw[this] at hx
      cases hx
    ·rw[(KQ hkl).2 (.inl rfl)];rfl
   omega
  ·have e:(fun i=>(listed.setIfInBounds k true).getD i false=true)=fun i=>i=k∨listed.getD i false=true:=by
    funext i
    exact propext (KQ hkl)
   rw[e]
   exact I'
theorem Rel.drew {m:dE} {H:aE} {w w':World} (h:Rel m L0 H w) (hw:w'.heap=w.heap):Rel m L0 H w':=by
 have hc:∀x,w'.cell? x=w.cell? x:=fun x=>by unfold World.cell?;rw[hw]
 refine⟨fun b l hb=>by rw[hw];exact h.valid b l hb,fun b l cs e p hm hb => ?_,h.inj,fun x hx=>⟨by rw[hw];exact(h.Dv x hx).1,(h.Dv x hx).2⟩⟩
 obtain⟨h1,h2,h3,h4⟩:=h.row b l cs e p hm hb
 refine⟨h1,h2,h3,fun i hi => ?_⟩
 rw[hc]
 exact h4 i hi
theorem Tj {id:Nat} {ops:Array Oper} {draw:Bool} {sP:List PI} (Dw:P.follows .mixedOrders=true) (mZ:wC P L0 call) (qJ:qX call) (hp:xL P E n ops draw=some sP) {ρ bC:Env} {H H':aE}
  (hv:gM call lo sP ρ H=some (bC,H')) {m:dE} {a:Act} {w:World} (h:Ie n L0 m ρ H a w) (eQ:L0≤lo) (hlen:L0≤H.length) (hf:∀b,H.length≤b→b<H'.length→m b=none) {Q:Exit→Act→World→Prop}
  (hQ:∀m' a' w',Ie n L0 m' bC H' a' w'→Trans lo m H w m' H' w'→Q .normal a' w'):(Code.region id ops draw).wp P Q a w:=by
 obtain⟨ps,M,Dx⟩:=Jh hp
 obtain⟨st,hs0,hsn,HX⟩:=F3 hv
 have hN:sP.length=ops.size:=by rw[Dx.auD];simp
 rw[hN] at hsn
 cases draw with
 |
  true =>
  have T:Text P E n ops sP ps M call lo st:=⟨Dx,qJ,HX⟩
  apply wp_region_any Dw
  have e0:(st 0).1=ρ:=by rw[hs0]
  have e1:(st 0).2=H:=by rw[hs0]
  have e2:(st ops.size).1=bC:=by rw[hsn]
  have e3:(st ops.size).2=H':=by rw[hsn]
  obtain⟨c,hc1,Z7,hc3,hc4⟩:=Fk (fun i=>∃q,ps[i]? = some q∧fP E q = .write) _ 0 ops.size rfl (Nat.zero_le _)
  have VD:=T.same hc1 Z7 fun i h1 h2 q hq hw=>hc3 i h1 h2 ⟨q,hq,hw⟩
  have aqJ:=T.len hc1 Z7
  have apT:=T.len (i:=c) (j:=ops.size) Z7 (Nat.le_refl _)
  have hgr:=h.rel.grow (by rw[←e1];exact VD) (fun b h1 h2=>hf b h1 (by rw[←e3];omega))
  have aaQ:∀i,(Array.replicate ops.size false).getD i false=true→False:=by
   intro i hi
   rcases Nat.lt_or_ge i ops.size with h | h<;>simp[h] at hi
  refine ahC (m0:=m) (w0:=w) T mZ eQ (by rw[e1];exact hlen) (by rw[e1,e3];exact hf) (by rw[e1,e2,e3];exact hQ) ops.size _ m c a _ (by simp) (Nat.le_trans List.countP_le_length (by simp)) ?_
  refine⟨h.Gq,h.defs,fun i o _ hi=>(aaQ i hi).elim,fun t j hj hw => ?_,Z7,fun i q hi hq hw=>absurd ⟨q,hq,hw⟩ (hc3 i (Nat.zero_le _) hi),fun hc=>⟨fun h=>aaQ _ h,hc4 hc⟩,hgr.drew rfl,?_,fun b l hb => .inl (by rw[hb];exact fun h=>by cases h)⟩
  ·have e:(st j).1 t=ρ t:=by
    rw[←e0]
    refine T.Pl (Nat.zero_le _) hj fun i oi _ JT hoi hd => ?_
    have QM:ops.toList[i]? = some oi:=by simpa using hoi
    exact(aaQ i ((hw i oi QM hd).2 JT)).elim
   rw[e]
   exact h.env t
  ·rw[e1]
   refine⟨fun _ _ h=>h,fun b l hb hn=>(by rw[hb] at hn;cases hn),Nat.le_refl _,fun _ _ _=>rfl,rfl,rfl,rfl⟩
 |
  false =>
  apply wp_region
  have key:∀d i,ops.size-i=d→i≤ops.size→∀m1 a1 w1,Ie n L0 m1 (st i).1 (st i).2 a1 w1→L0≤(st i).2.length→(∀b,(st i).2.length≤b→b<H'.length→m1 b=none) →
    (∀m' a' w',Ie n L0 m' bC H' a' w'→Trans lo m1 (st i).2 w1 m' H' w'→Q .normal a' w')→wpOps P ops Q ((List.range ops.size).drop i) a1 w1:=by
   intro d
   induction d with
   |
    zero =>
    intro i hd hi m1 a1 w1 h1 _ _ hQ1
    have:i=ops.size:=by omega
    subst this
    rw[List.drop_eq_nil_of_le (by simp)]
    rw[hsn] at h1 hQ1
    exact hQ1 m1 a1 w1 h1 (Trans.refl _ _ _ _)
   |
    succ d ih =>
    intro i hd hi m1 a1 w1 h1 Ds hf1 hQ1
    have bA:i<ops.size:=by omega
    rw[List.drop_eq_getElem_cons (by simpa using bA),wpOps_cons]
    have ho:ops.toList[i]? = some ops[i]:=by simp[bA]
    obtain⟨p,pi,hp1,hp2,akK,_,Xg⟩:=Dx.each i _ ho
    have ahL:=HX i pi hp2
    obtain⟨v,hv1,hv2⟩:=wS ahL
    have hq:pi.quiet=false:=(Xg rfl).1
    have hE1:=G9 qJ ahL
    have hE2:Ext lo (st (i+1)).2 H':=by
     have:∀d j,ops.size-j=d→j≤ops.size→Ext lo (st j).2 H':=by
      intro d
      induction d with
      | zero =>
        intro j hd hj;have:j=ops.size:=by omega
        subst this;rw[hsn];exact Ext.refl _ _
      |
       succ d ih =>
       intro j hd hj
       have hjl:j<sP.length:=by omega
       exact(G9 qJ (HX j sP[j] (List.getElem?_eq_getElem hjl))).trans (ih (j+1) (by omega) (by omega))
     exact this _ (i+1) rfl bA
    have Ch:(List.range ops.size)[i]'(by simpa using bA)=i:=by simp
    rw[Ch]
    refine PK (by simp[bA]) akK (fun h=>by rw[hq] at h;cases h) hv1 (fun t _=>h1.env t) h1.rel eQ Ds (fun b Ee hb2=>hf1 b Ee (Nat.lt_of_lt_of_le hb2 hE2.len)) mZ fun m' rv w' UB hR hT => ?_
    rw[hq] at hT
    simp only[Bool.false_eq_true,if_false] at hT
    refine ih (i+1) (by omega) bA m' _ w' ⟨by rw[FN];exact h1.Gq,by rw[Gf];exact h1.defs,fun t => ?_,hR⟩ (Nat.le_trans Ds hE1.len) (hT.fresh hE1.len hf1) fun m2 a2 w2 h2 hT2=>hQ1 m2 a2 w2 h2 (Trans.trans hf1 hE1 hE2 hT hT2)
    rw[hv2,akK.dst]
    cases hd:ops[i].dst with
    | none=>exact(h1.env t).mono hT.ext
    |
     some d =>
     rw[P5 (by rw[h1.Gq];exact akK.bound d hd)]
     show RV m' (if t=d then v else (st i).1 t) _
     by_cases e:t=d
     ·rw[if_pos e,if_pos e];exact UB
     ·rw[if_neg e,if_neg e];exact(h1.env t).mono hT.ext
  have:=key ops.size 0 (by omega) (Nat.zero_le _) m a w (by rw[hs0];exact h) (by rw[hs0];exact hlen) (by rw[hs0];exact hf) (by rw[hs0];exact hQ)
  simpa using this
end
end Go.PM