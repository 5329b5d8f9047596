/- Texts of a claim, in one: part 2. -/
import Derived.LoopN
import Derived.Test.YtinhiblbgejbdaaGreatDoorKNa
set_option linter.unusedSimpArgs false
set_option linter.unusedVariables false
namespace Go.PM
section
variable {P:Program} {m:cK} {L0:Nat} {H:aF} {w:World}
theorem RL.const {zs:List Value} (h:zs.all iV=true):RL m zs zs :=
 ⟨rfl,fun j hj=>by
  have:=RV.const (m:=m) (List.all_eq_true.1 h _ (List.getElem_mem hj))
  simpa[List.getD_eq_getElem?_getD,List.getElem?_eq_getElem hj] using this⟩
theorem qF (n:Nat) (zs:List Value):(bZ n zs).length=n*zs.length:=by simp[bZ]
theorem sD (n:Nat) {zs:List Value} (h:zs.all iV=true) (h0:1≤zs.length):RL m (bZ n zs) (bZ n zs):=by
 refine⟨rfl,fun i hi => ?_⟩
 rw[qF] at hi
 have aR:i % zs.length<zs.length:=Nat.mod_lt _ h0
 have e:(bZ n zs).getD i undef=zs.getD (i % zs.length) undef:=by simp[bZ,List.getD_eq_getElem?_getD,hi]
 rw[e]
 exact(RL.const h).2 _ aR
theorem Of (n:Nat) {zs:List Value} (h:zs.all fU=true) (h0:1≤zs.length):(bZ n zs).all fU=true:=by
 rw[List.all_eq_true]
 intro x hx
 obtain⟨i,_,rfl⟩:=List.mem_map.1 hx
 have aR:i % zs.length<zs.length:=Nat.mod_lt _ h0
 have:=List.all_eq_true.1 h _ (List.getElem_mem aR)
 simpa[List.getD_eq_getElem?_getD,List.getElem?_eq_getElem aR] using this
theorem F4 (z:Array Value) (n:Nat) (h0:1≤z.size):(madeCells z (n*z.size)).toList=bZ n z.toList:=by
 apply List.ext_getElem
 ·simp[madeCells,bZ]
 ·intro i h1 h2
  have aR:i % z.size<z.size:=Nat.mod_lt _ h0
  simp[madeCells,bZ,aR]
theorem Dh (z:Array Value) (n:Nat) (h0:1≤z.size):(Builtin.zeroCells z n).toList=bZ n z.toList:=by
 apply List.ext_getElem
 ·simp[Builtin.zeroCells,bZ]
 ·intro i h1 h2
  have aR:i % z.size<z.size:=Nat.mod_lt _ h0
  simp[Builtin.zeroCells,bZ,aR]
theorem VN {t:TypeId} {agg:Bool} {size nb lo:Nat} {z:List Value} (ht:jP P t=some (agg,size,z,nb)) (F8:z.all fU=true) (Rw:z.all iV=true) (hR:Rel m L0 H w) (hf:m H.length=none) :
  bT P (do pure (.value (←Instr.alloc t true (.tuple #[])))) L0 lo m H w (.pointer (some ⟨H.length,0,none⟩)) (H++[.row z z.length false]):=by
 obtain⟨i,d,zz,hi,hd,E6,rfl,rfl,rfl,rfl⟩:=gH ht
 have kF:(Instr.alloc t true (.tuple #[])).run P w = .ok (.pointer (some ⟨w.heap.size,0,none⟩)) (w.alloc (.cells zz.cells t)):=by
  simp[Instr.alloc,zeroValue,typeInfo,hi,E6,newVar,newRow]
 have hA:=sJ hR hf (w':=w.alloc (.cells zz.cells t)) (arr:=zz.cells) (e:=t) (fz:=(0,0)) rfl ⟨rfl,rfl,rfl⟩ (cs:=aK zz) (dA:=(aK zz).length) (No:=false)
  (by rw[dN];exact Nat.le_refl _) (fun i hi=>by
   have:=(RL.const (m:=m) Rw).2 i hi
   rwa [←uO,eY]) F8 (fun j _ h=>by simp at h)
 exact bT.value kF (.ptr _ 0 _ (bC m _ _)) hA.1 (hA.2 lo)
theorem UH {t:TypeId} {v r:Value} {lo:Nat} (hv:RV m v r) (hs:(aK v).all fU=true) (hR:Rel m L0 H w) (hf:m H.length=none) :
  bT P (do pure (.value (←Instr.box t r))) L0 lo m H w (.pointer (some ⟨H.length,0,none⟩)) (H++[.row (aK v) (aK v).length false]):=by
 have kF:(Instr.box t r).run P w = .ok (.pointer (some ⟨w.heap.size,0,none⟩)) (w.alloc (.cells r.cells t)):=by
  simp[Instr.box,newVar,newRow]
 have hA:=sJ hR hf (w':=w.alloc (.cells r.cells t)) (arr:=r.cells) (e:=t) (fz:=(0,0)) rfl ⟨rfl,rfl,rfl⟩ (cs:=aK v) (dA:=(aK v).length) (No:=false)
  (by rw[dN,hv.aK.1];exact Nat.le_refl _) (fun i hi=>by
   have:=hv.aK.2 i hi
   rwa [←uO,eY]) hs (fun j _ h=>by simp at h)
 exact bT.value kF (.ptr _ 0 _ (bC m _ _)) hA.1 (hA.2 lo)
theorem SO {t:TypeId} {agg:Bool} {size nb lo:Nat} {z:List Value} {kl kc:IntKind} {l c:Int} (ht:iC P t=some (agg,size,z,nb)) (F8:z.all fU=true) (Rw:z.all iV=true) (QP:size=z.length) (C0:1≤size)
  (hl:0≤l) (hlc:l≤c) (hb:c*nb≤281474976710656) (hc:c≤9223372036854775807) (hR:Rel m L0 H w) (hf:m H.length=none) :
  bT P (do pure (.value (←Instr.makeSlice t (.int kl l) (.int kc c)))) L0 lo m H w (.slice (some ⟨H.length,0,none⟩) l.toNat c.toNat) (H++[.row (bZ c.toNat z) z.length false]):=by
 obtain⟨e,hu,FX⟩:=gY ht
 obtain⟨i,d,zz,hi,hd,E6,rfl,rfl,rfl,rfl⟩:=gH FX
 have kF:=run_make (P:=P) w t e i zz hu hi E6 kl kc l c hl hlc (by rw[Int.mul_comm];exact hb) hc
 have Aa:i.size=zz.cells.size:=by rw[QP,dN]
 rw[Aa] at kF C0
 have La:(madeCells zz.cells (c.toNat*zz.cells.size)).toList=bZ c.toNat (aK zz):=by rw[F4 _ _ C0,eY]
 have afN:(madeCells zz.cells (c.toNat*zz.cells.size)).size=c.toNat*(aK zz).length:=by rw[size_madeCells,dN]
 have SN:1≤(aK zz).length:=by rw[←dN];exact C0
 have hA:=sJ hR hf (w':=w.alloc (.cells (madeCells zz.cells (c.toNat*zz.cells.size)) e)) (arr:=madeCells zz.cells (c.toNat*zz.cells.size)) (e:=e) (fz:=(0,0)) rfl ⟨rfl,rfl,rfl⟩
  (cs:=bZ c.toNat (aK zz)) (dA:=(aK zz).length) (No:=false) (by rw[afN,qF];exact Nat.le_refl _) (fun j hj=>by
   have:=(sD (m:=m) c.toNat Rw SN).2 j hj
   rwa [←uO,La]) (Of _ F8 SN) (fun j _ h=>by simp at h)
 refine bT.value kF ?_ hA.1 (hA.2 lo)
 exact .slice _ 0 _ _ _ _ _ (bC m _ _) (by omega) (Nat.le_refl _) (fun _=>rfl) (.inr ⟨rfl,by simp only[afN];omega⟩)
theorem Ue {t:TypeId} {agg:Bool} {size nb lo n:Nat} {z cs:List Value} {parts:List (Nat×Operand)} {ρ:Env} {a:Act} (ht:iC P t=some (agg,size,z,nb)) (F8:z.all fU=true) (Rw:z.all iV=true) (QP:size=z.length) (C0:1≤size) (hn:n*size≤16777216)
  (ZA:rV ((List.range n).map fun i=>(i*z.length,z.length)) (bZ n z) (parts.map fun(i,x)=>(i,ev ρ x))=some cs) (zG:cs.all fU=true) (hr:∀p∈parts,RV m (ev ρ p.2) (a.eval p.2))
  (hR:Rel m L0 H w) (hf:m H.length=none) :
  bT P (do pure (.value (←Instr.buildSlice t n (parts.toArray.map fun(i,x)=>(i,a.eval x))))) L0 lo m H w (.slice (some ⟨H.length,0,none⟩) n n) (H++[.row cs z.length false]):=by
 obtain⟨e,hu,FX⟩:=gY ht
 obtain⟨i,d,zz,hi,hd,E6,rfl,rfl,rfl,rfl⟩:=gH FX
 have Aa:i.size=zz.cells.size:=by rw[QP,dN]
 have SN:1≤(aK zz).length:=by rw[←dN,←Aa];exact C0
 have KW:∀j q,((List.range n).map fun i=>(i*(aK zz).length,(aK zz).length))[j]? = some q→(fun i'=>some (i'*i.size,i.size):Nat→Option (Nat×Nat)) j=some q:=by
  intro j q hj
  simp only[List.getElem?_map,Option.map_eq_some_iff] at hj
  obtain⟨k,hk,rfl⟩:=hj
  have So:=(List.getElem?_eq_some_iff.1 hk)
  obtain⟨hk1,U2⟩:=So
  simp at U2
  subst U2
  rw[←QP]
 have hz:RL m (bZ n (aK zz)) ((Array.range (n*i.size)).map (zz.cells[· % zz.cells.size]!)).toList:=by
  have:=sD (m:=m) n Rw SN
  rw[Aa]
  have e1:=F4 zz.cells n (by rw[←Aa];exact C0)
  rw[eY] at e1
  show RL m _ (madeCells zz.cells (n*zz.cells.size)).toList
  rw[e1]
  exact this
 obtain⟨Hq,h1,h2⟩:=Nv (m:=m) _ _ KW (parts.map fun(i,x)=>(i,ev ρ x)) (parts.map fun(i,x)=>(i,a.eval x)) _ _ cs
  (by simp[Function.comp_def]) (by simpa[Function.comp_def] using RL.map (l:=parts) (f:=fun p=>ev ρ p.2) (g:=fun p=>a.eval p.2) hr) hz ZA
 have hlen:cs.length=n*(aK zz).length:=by rw[K6 _ _ _ _ ZA,qF]
 have emap:(Array.map (fun x:Nat×Operand=>(x.1,a.eval x.2)) parts.toArray).toList=parts.map fun(i,x)=>(i,a.eval x):=by simp
 have aoW:¬(2^24<n*i.size):=by omega
 have kF:(Instr.buildSlice t n (parts.toArray.map fun(i,x)=>(i,a.eval x))).run P w = .ok (.slice (some ⟨w.heap.size,0,none⟩) n n) (w.alloc (.cells Hq e)):=by
  have Pp:Instr.fill (fun i'=>some (i'*i.size,i.size)) ((Array.range (n*i.size)).map (zz.cells[· % zz.cells.size]!)) (Array.map (fun x:Nat×Operand=>(x.1,a.eval x.2)) parts.toArray).toList=some Hq:=by rw[emap];exact h1
  by_cases Gd:n*i.size=0
  ·rw[Gd] at Pp
   simp only[show ∀f:Nat→Value,(Array.range 0).map f = #[] from fun f=>by simp] at Pp
   unfold Instr.buildSlice
   simp only[Sem.run_bind,run_underlying hu,Result.andThen_ok,run_sizeOf e i hi,Gd,if_true,Sem.run_pure,show ¬(0>2^24) by omega,if_false]
   rw[show ∀f:Nat→Value,(Array.range 0).map f = #[] from fun f=>by simp]
   simp only[Pp]
   simp[newRow]
  ·unfold Instr.buildSlice
   simp only[Sem.run_bind,run_underlying hu,Result.andThen_ok,run_sizeOf e i hi,Gd,if_false,Sem.run_pure,gt_iff_lt,aoW,zeroValue,typeInfo,run_program,hi,E6]
   simp only[Pp]
   simp[newRow]
 have hrs:Hq.size=n*(aK zz).length:=by rw[←hlen];simpa using h2.1.symm
 have hA:=sJ hR hf (w':=w.alloc (.cells Hq e)) (arr:=Hq) (e:=e) (fz:=(0,0)) rfl ⟨rfl,rfl,rfl⟩ (cs:=cs) (dA:=(aK zz).length) (No:=false)
  (by rw[hlen,hrs];exact Nat.le_refl _) (fun j hj=>by rw[←uO];exact h2.2 j hj) zG (fun j _ h=>by simp at h)
 refine bT.value kF ?_ hA.1 (hA.2 lo)
 exact .slice _ 0 _ _ _ _ _ (bC m _ _) (Nat.le_refl _) (Nat.le_refl _) (fun _=>rfl) (.inr ⟨rfl,by simp only[hrs];omega⟩)
theorem Ph (g:Value→ByteArray→Sem (ForInStep ByteArray)) (hg:∀n s,g (.int .u8 n) s=pure (ForInStep.yield (s.push (UInt8.ofNat n.toNat)))):∀(cs rs:List Value) (bs:List UInt8) (acc:ByteArray),RL m cs rs→pO cs=some bs→∀w,
  (forIn rs acc g).run P w = .ok ⟨(acc.data.toList++bs).toArray⟩ w:=by
 intro cs
 induction cs with
 |
  nil =>
  intro rs bs acc hr hb w
  have e0:rs=[]:=List.eq_nil_of_length_eq_zero hr.1.symm
  subst e0
  cases hb
  simp
 |
  cons c cs ih =>
  intro rs bs acc hr hb w
  cases rs with
  | nil=>exact absurd hr.1 (by simp)
  |
   cons r rs =>
   obtain⟨hc,OD⟩:=hr.iF
   unfold pO at hb
   split at hb
   ·rename_i heq;cases heq
   ·rename_i n rest heq
    cases heq
    cases hc
    cases h2:pO cs with
    | none=>rw[h2] at hb;cases hb
    |
     some bs' =>
     rw[h2] at hb
     cases hb
     simp only[List.forIn_cons,hg,Sem.run_bind,Sem.run_pure,Result.andThen_ok]
     rw[ih rs bs' _ OD h2 w]
     simp[ByteArray.push]
   ·cases hb
theorem Vg {s d e:TypeId} {rp:Value} {lo n b off c:Nat} {cs:List Value} {bs:List UInt8} (hs:P.underlying s=some (.slice e)) (hd:P.underlying d=some .string) (he:P.underlying e=some (.int .u8))
  (Qy:H.read b off n=some cs) (hb:pO cs=some bs) (hR:Rel m L0 H w) (hp:RV m (.slice (some ⟨b,off,none⟩) n c) rp) :
  bT P (do pure (.value (←convert s d rp))) L0 lo m H w (.string ⟨bs.toArray⟩) H:=by
 cases hp with
 |
  slice _ _ _ _ l ra rc hm hn hc hx ha =>
  obtain⟨rs,h1,h2,_,h3⟩:=tI hR hm Qy
  have aeN:(loadCells ra n).run P w = .ok rs.toArray w:=by
   rcases ha with ha | ⟨rfl,ha⟩
   ·have h0:n=0:=by omega
    subst h0
    have e0:rs=[]:=List.eq_nil_of_length_eq_zero h2
    subst e0
    rfl
   ·rw[←h2]
    exact run_loadCells_list w _ rs h3
  refine bT.value (rv := .string ⟨bs.toArray⟩) (w':=w) (m':=m) ?_ (.str _) hR (Trans.refl lo m H w)
  simp only[convert,Sem.run_bind,run_underlying hs,run_underlying hd,Result.andThen_ok,run_underlying he,Conv.bytesToString,aeN,←Array.forIn_toList]
  rw[Ph (P:=P) (m:=m) _ (fun n s=>rfl) cs rs bs ByteArray.empty h1 hb w]
  simp
theorem Kq {t e:TypeId} {i:TypeInfo} (hu:P.underlying t=some (.slice e)) (hi:P.info? e=some i) {a:Option Addr} {n c:Nat} {lo B1 mx:Option Value} {l h k:Nat}
  (hb:(Instr.sliceBounds true n c lo B1 mx).run P w = .ok (l,h,k) w) :
  (Instr.sliceAt t (.slice a n c) lo B1 mx).run P w = .ok (.slice (if k=l then a else a.map (·.add (l*i.size))) (h-l) (k-l)) w:=by
 have h1:(Instr.sliceAt t (.slice a n c) lo B1 mx).run P w=(Instr.slice t (.slice a n c) lo B1 mx).run P w:=by
  unfold Instr.sliceAt
  rw[Sem.run_bind,run_underlying hu,Result.andThen_ok]
 rw[h1]
 unfold Instr.slice
 rw[Sem.run_bind,run_underlying hu,Result.andThen_ok]
 simp[hb,run_sizeOf e i hi]
theorem Uh {t e:TypeId} {i:TypeInfo} {lo:Nat} {x rx v:Value} {l h mx l' h' mx':Option Value} {H':aF} (hu:P.underlying t=some (.slice e)) (hi:P.info? e=some i)
  (hs:Ah i.size x l h mx H=some (v,H')) (hx:RV m x rx) (hl:RO m l l') (hh:RO m h h') (hm:RO m mx mx') (hR:Rel m L0 H w) (hf:∀b,H.length≤b→b<H'.length→m b=none) :
  bT P (do pure (.value (←Instr.sliceAt t rx l' h' mx'))) L0 lo m H w v H':=by
 unfold Ah at hs
 split at hs
 ·rename_i n c
  split at hs
  ·rename_i h0
   obtain⟨rfl,rfl⟩:=h0
   cases hx
   split at hs
   ·cases hs
   ·rename_i M hM
    split at hs
    ·cases hs
    ·rename_i hb hhb
     split at hs
     ·cases hs
     ·rename_i lb Ch
      cases hs
      have key:∃k1 k2 k3,(Instr.sliceBounds true 0 0 l' h' mx').run P w = .ok (k1,k2,k3) w∧k1=0∧k2=0∧k3=0:=by
       rcases lA (P:=P) hM hm with⟨rfl,rfl,e1⟩ | ⟨_,r1,rfl,rfl,q1,e1⟩<;>rcases lA (P:=P) hhb hh with⟨_,rfl,e2⟩ | ⟨_,r2,_,rfl,q2,e2⟩<;>rcases lA (P:=P) Ch hl with⟨_,rfl,e3⟩ | ⟨_,r3,_,rfl,q3,e3⟩
       ·cases e1;cases e2;cases e3
        exact⟨0,0,0,rfl,rfl,rfl,rfl⟩
       ·cases e1;cases e2
        exact⟨lb,0,0,by simp[Instr.sliceBounds,e3 0 (Nat.le_refl _)],by omega,rfl,rfl⟩
       ·cases e1;cases e3
        exact⟨0,hb,0,by simp[Instr.sliceBounds,e2 0 (Nat.le_refl _)],rfl,by omega,rfl⟩
       ·cases e1
        exact⟨lb,hb,0,by simp[Instr.sliceBounds,e2 0 (Nat.le_refl _),e3 hb (Nat.le_refl _)],by omega,by omega,rfl⟩
       ·cases e2
       ·cases e2
       ·cases e3
        exact⟨0,hb,M,by simp[Instr.sliceBounds,e1 0 (Nat.le_refl _),e2 M (Nat.le_refl _)],rfl,by omega,by omega⟩
       ·exact⟨lb,hb,M,by simp[Instr.sliceBounds,e1 0 (Nat.le_refl _),e2 M (Nat.le_refl _),e3 hb (Nat.le_refl _)],by omega,by omega,by omega⟩
      obtain⟨k1,k2,k3,hk,rfl,rfl,rfl⟩:=key
      exact bT.value (Kq hu hi hk) (by simpa using RV.Ln) hR (Trans.refl lo m H w)
  ·cases hs
 ·rename_i b o n c
  cases hx with
  |
   slice _ _ _ _ lc ra rc PT Zd hcr hxp ha =>
   split at hs
   ·rename_i cells es p Qx
    obtain⟨g1,g2,g3,g4⟩:=hR.row b lc cells es p PT Qx
    split at hs
    ·rename_i IX
     subst IX
     split at hs
     ·cases hs
     ·rename_i M hM
      split at hs
      ·cases hs
      ·rename_i hb hhb
       split at hs
       ·cases hs
       ·rename_i lb Ch
        have key:∃k3,(Instr.sliceBounds true n rc l' h' mx').run P w = .ok (lb,hb,k3) w∧lb≤hb∧hb≤M∧M≤c∧((mx=none∧k3=rc∧M=c)∨(mx.isSome=true∧k3=M)):=by
         rcases lA (P:=P) hM hm with⟨rfl,rfl,e1⟩ | ⟨_,r1,rfl,rfl,q1,e1⟩<;>rcases lA (P:=P) hhb hh with⟨_,rfl,e2⟩ | ⟨_,r2,_,rfl,q2,e2⟩<;>rcases lA (P:=P) Ch hl with⟨_,rfl,e3⟩ | ⟨_,r3,_,rfl,q3,e3⟩
         ·cases e1;cases e2;cases e3
          exact⟨rc,rfl,Nat.zero_le _,Zd,Nat.le_refl _,.inl ⟨rfl,rfl,rfl⟩⟩
         ·cases e1;cases e2
          exact⟨rc,by simp[Instr.sliceBounds,e3 n (Nat.le_refl _)],q3,Zd,Nat.le_refl _,.inl ⟨rfl,rfl,rfl⟩⟩
         ·cases e1;cases e3
          exact⟨rc,by simp[Instr.sliceBounds,e2 rc hcr],Nat.zero_le _,q2,Nat.le_refl _,.inl ⟨rfl,rfl,rfl⟩⟩
         ·cases e1
          exact⟨rc,by simp[Instr.sliceBounds,e2 rc hcr,e3 hb (Nat.le_refl _)],q3,q2,Nat.le_refl _,.inl ⟨rfl,rfl,rfl⟩⟩
         ·cases e2
         ·cases e2
         ·cases e3
          exact⟨M,by simp[Instr.sliceBounds,e1 rc hcr,e2 M (Nat.le_refl _)],Nat.zero_le _,q2,q1,.inr ⟨rfl,rfl⟩⟩
         ·exact⟨M,by simp[Instr.sliceBounds,e1 rc hcr,e2 M (Nat.le_refl _),e3 hb (Nat.le_refl _)],q3,q2,q1,.inr ⟨rfl,rfl⟩⟩
        obtain⟨k3,hk,hlh,hhM,hMc,B4⟩:=key
        have kF:=Kq (a:=some ra) hu hi hk
        have place:k3-lb=0∨((if k3=lb then some ra else (some ra).map (·.add (lb*i.size)))=some (⟨lc.rb,lc.base+(o+lb*i.size),none⟩:Addr)∧lc.base+(o+lb*i.size)+(k3-lb)*lc.dA≤lc.K9):=by
         by_cases hz:k3-lb=0
         ·exact .inl hz
         ·right
          have hk3:k3≤rc:=by rcases B4 with⟨_,rfl,_⟩ | ⟨_,rfl⟩<;>omega
          rcases ha with ha | ⟨rfl,ha⟩
          ·omega
          ·rw[if_neg (by omega)]
           refine⟨by simp[Addr.add_lit,Nat.add_assoc],?_⟩
           rw[g1] at ha ⊢
           have e1:(k3-lb)*i.size=k3*i.size-lb*i.size:=Nat.sub_mul _ _ _
           have e2:lb*i.size≤k3*i.size:=Nat.mul_le_mul_right _ (by omega)
           have e3:k3*i.size≤rc*i.size:=Nat.mul_le_mul_right _ hk3
           omega
        obtain⟨ra',aiD⟩:∃ra',(if k3=lb then some ra else (some ra).map (·.add (lb*i.size)))=some ra':=by split<;>exact⟨_,rfl⟩
        rw[aiD] at kF
        have ZT:k3-lb=0∨(ra'=⟨lc.rb,lc.base+(o+lb*i.size),none⟩∧lc.base+(o+lb*i.size)+(k3-lb)*lc.dA≤lc.K9):=by
         rcases place with hp | ⟨hp1,hp2⟩
         ·exact .inl hp
         ·rw[aiD] at hp1
          exact .inr ⟨by injection hp1,hp2⟩
        split at hs
        ·rename_i aoE
         cases hs
         obtain⟨afT,hMl⟩:=aoE
         rcases B4 with⟨rfl,_⟩ | ⟨_,rfl⟩
         ·cases afT
         ·have hA:=Tu hR (hf H.length (Nat.le_refl _) (by simp)) PT i.size
          refine bT.value (rv := .slice (some ra') 0 0) (by rw[kF];congr 2<;>omega) ?_ hA.1 (hA.2 lo)
          exact .slice _ 0 0 0 _ _ 0 (bC m _ _) (Nat.le_refl _) (Nat.le_refl _) (fun _=>rfl) (.inl rfl)
        ·cases hs
         refine bT.value kF ?_ hR (Trans.refl lo m H w)
         refine .slice b _ _ _ lc _ _ PT (by omega) ?_ ?_ ZT
         ·rcases B4 with⟨_,rfl,rfl⟩ | ⟨_,rfl⟩<;>omega
         ·intro ho
          have:=hxp ho
          rcases B4 with⟨_,rfl,rfl⟩ | ⟨_,rfl⟩<;>omega
    ·cases hs
   ·cases hs
 ·cases hs
end
end Go.PM
namespace Go.PM
section
variable {P:Program} {m:cK} {L0:Nat} {H:aF} {w:World}
theorem P0 {t:TypeId} {i:TypeInfo} {lo b o:Nat} {v r rp:Value} {H':aF} (hi:P.info? t=some i) (hp:RV m (.pointer (some ⟨b,o,none⟩)) rp) (hv:RV m v r) (hs:(aK v).length=i.size)
  (hw:H.write lo b o (aK v)=some H') (hR:Rel m L0 H w) (dP:L0≤lo) :
  bT P (do Instr.storeAt t rp r;pure .skip) L0 lo m H w undef H':=by
 cases hp with
 |
  ptr _ _ l hm =>
  obtain⟨w',s1,s2,s3⟩:=Bz P hR dP hm hw hv.aK
  refine⟨undef,w',m,.inr ⟨?_,rfl⟩,RV.undef m,s2,s3⟩
  have Aa:r.cells.size=i.size:=by rw[dN,←hv.aK.1,hs]
  have h1:(Instr.storeAt t (.pointer (some ⟨l.rb,l.base+o,none⟩)) r).run P w = .ok () w':=by
   show (storeVar t ⟨l.rb,l.base+o,none⟩ r).run P w=_
   unfold storeVar
   simp only[Sem.run_bind,run_sizeOf t i hi,Result.andThen_ok,Aa,ne_eq,not_true_eq_false,if_false,eY]
   exact s1
  rw[Sem.run_bind,h1]
  rfl
theorem EX {pv rv:Value} {k:Nat} (h:oL pv=some k) (hr:RV m pv rv):Builtin.lenOf rv=pure k:=by
 unfold oL at h
 split at h
 ·cases h;cases hr<;>rfl
 ·cases h;cases hr;rfl
 ·cases h
theorem zO (a b:Array Value) (xs:List Value) (h:a.toList=xs) (i:Nat) (hi:i<xs.length):(a++b).getD i undef=xs.getD i undef:=by
 subst h
 have:i<a.size:=by simpa using hi
 simp[Array.getD_eq_getD_getElem?,Array.getElem?_append_left this,List.getD_eq_getElem?_getD]
theorem T9 {t u ty:TypeId} {agg:Bool} {size bytes lo k:Nat} {z:List Value} {d:TypeDesc} {x y rx ry v:Value} {new:List Value} {H':aF} (ht:iC P t=some (agg,size,z,bytes)) (hu:P.underlying u=some d) (hd:HD d=true)
  (hk:oL y=some k) (Di:gU H size k y=some new) (qE:dF lo size bytes x k new H=some (v,H')) (hx:RV m x rx) (hy:RV m y ry) (QP:size=z.length)
  (hR:Rel m L0 H w) (dP:L0≤lo) (hf:∀b,H.length≤b→b<H'.length→m b=none) :
  bT P (do pure (.value (←Builtin.append_ #[t,u] ty #[rx,ry]))) L0 lo m H w v H':=by
 obtain⟨e,FX,LD⟩:=gY ht
 obtain⟨i,de,zz,hi,_,E6,rfl,rfl,rfl,rfl⟩:=gH LD
 obtain⟨mP,h1,h2,h3⟩:=Fu Di hk (Nat.le_refl _) hR hy
 have hl:=EX hk hy
 have xE:1≤i.bytes:=by
  unfold dF at qE
  split at qE
  ·rename_i h;exact h.1
  ·cases qE
 have hnl:new.length=k*i.size:=by
  unfold dF at qE
  split at qE
  ·rename_i h;exact h.2.2.2
  ·cases qE
 obtain⟨rv,w',m',g1,g2,g3,g4⟩:=FD (P:=P) (s:=Builtin.append_ #[t,u] ty #[rx,ry]) (e:=e) qE hR dP hx h1 hf
  (fun a n c w' Gy wU Cs=>by
   subst Gy
   exact KY FX hu hd hi hl (h3 w rfl) wU Cs)
  (fun Gy hk0=>by
   subst Gy
   subst hk0
   exact Nz FX hu hd hi hl (h3 w rfl))
  (fun base n c Af Gy WA kB hg hb=>by
   subst Gy
   refine⟨grownCap w (n+k) c e,_,grownCap_ge w _ _ _,K8 FX hu hd hi E6 hl WA (h3 w.drew rfl) hg xE hb,?_,?_⟩
   ·have vZ:=grownCap_ge w (n+k) c e
    have FA:mP.length=k*i.size:=by rw[←h1.1,hnl]
    simp only[Array.size_append,List.size_toArray,size_zeroCells,kB,FA]
    rw[←dN] at QP
    rw[←QP,←Nat.add_mul,←Nat.add_mul]
    congr 1
    omega
   ·intro j hj
    exact zO _ _ _ (by simp) j hj)
 exact bT.value g1 g2 g3 g4
section
variable {t u ty e:TypeId} {ku:IntKind} {i:TypeInfo} {zz:Value} {k:Nat}
theorem DX {k:Nat} (h:k≤140737488355328):IntKind.i64.wrap (k:Int)=(k:Int):=by rw[IntKind.wrap_i64];omega
theorem Jj (ht:P.underlying t=some (.slice e)) (hu:P.underlying u=some (.int ku)) (hi:P.info? e=some i) (E6:i.zero=some zz) (hk:k≤140737488355328) (hkb:k*i.bytes≤140737488355328)
  {a:Addr} {n c:Nat} {w':World} (wU:n+k≤c) (hz:k*i.size=0→Builtin.zeroCells zz.cells k = #[]) (Cs:(storeCells (a.add (n*i.size)) (Builtin.zeroCells zz.cells k).toList).run P w = .ok () w') :
  (Builtin.append_ #[t,u] ty #[.slice (some a) n c,.int .i64 k]).run P w = .ok (.slice (some a) (n+k) c) w':=by
 have h0:¬((k:Int)<0):=by omega
 have hb:¬(281474976710656<(k:Int)*(i.bytes:Int)):=by rw[←Int.natCast_mul];omega
 by_cases C0:k*i.size=0
 ·rw[hz C0] at Cs
  simp[Builtin.append_,run_underlying ht,run_underlying hu,run_sizeOf e i hi,asInt,asIntOf,DX hk,typeInfo,hi,h0,hb,wU,C0,Cs]
 ·simp[Builtin.append_,run_underlying ht,run_underlying hu,run_sizeOf e i hi,asInt,asIntOf,DX hk,typeInfo,hi,h0,hb,wU,C0,zeroValue,E6,Cs]
theorem K4 (ht:P.underlying t=some (.slice e)) (hu:P.underlying u=some (.int ku)) (hi:P.info? e=some i) :
  (Builtin.append_ #[t,u] ty #[.slice none 0 0,.int .i64 (0:Nat)]).run P w = .ok (.slice none 0 0) w:=by
 have hw:IntKind.i64.wrap 0=0:=rfl
 simp[Builtin.append_,run_underlying ht,run_underlying hu,run_sizeOf e i hi,asInt,asIntOf,hw,typeInfo,hi]
theorem Je (ht:P.underlying t=some (.slice e)) (hu:P.underlying u=some (.int ku)) (hi:P.info? e=some i) (E6:i.zero=some zz) (hk:k≤140737488355328) (hkb:k*i.bytes≤140737488355328)
  {base:Option Addr} {n c:Nat} {Af:List Value} (WA:(Builtin.firstCells i.size n (.slice base n c)).run P w.drew = .ok Af.toArray w.drew) (hz:k*i.size=0→Builtin.zeroCells zz.cells k = #[])
  (hg:c<n+k) (xE:1≤i.bytes) (Jk:(n+k)*i.bytes≤140737488355328) :
  (Builtin.append_ #[t,u] ty #[.slice base n c,.int .i64 k]).run P w = .ok (.slice (some ⟨w.heap.size,0,none⟩) (n+k) (grownCap w (n+k) c e))
   (w.drew.alloc (.cells (Af.toArray++Builtin.zeroCells zz.cells k++Builtin.zeroCells zz.cells (grownCap w (n+k) c e-(n+k))) e)):=by
 have sE:=growslice_fits (bytes:=i.bytes) hg Jk
 have h0:¬((k:Int)<0):=by omega
 have hb:¬(281474976710656<(k:Int)*(i.bytes:Int)):=by rw[←Int.natCast_mul];omega
 have h1:¬(n+k≤c):=by omega
 have h2:¬(281474976710656<Builtin.nextslicecap (n+k) c*i.bytes):=by omega
 have h4:n+k≤140737488355328:=Nat.le_trans (Nat.le_mul_of_pos_right _ xE) Jk
 have h3:¬(9223372036854775807<(n:Int)+(k:Int)):=by omega
 by_cases C0:k*i.size=0
 ·have e0:=hz C0
  simp[Builtin.append_,run_underlying ht,run_underlying hu,run_sizeOf e i hi,asInt,asIntOf,DX hk,typeInfo,hi,h0,hb,h1,h2,h3,e0,zeroValue,E6,Question.forced,WA,newRow,grownCap]
 ·simp[Builtin.append_,run_underlying ht,run_underlying hu,run_sizeOf e i hi,asInt,asIntOf,DX hk,typeInfo,hi,h0,hb,h1,h2,h3,C0,zeroValue,E6,Question.forced,WA,newRow,grownCap]
end
theorem Tx {t u ty:TypeId} {agg:Bool} {size bytes lo:Nat} {z:List Value} {ku:IntKind} {n:Int} {x rx v:Value} {H':aF} (ht:iC P t=some (agg,size,z,bytes)) (hu:P.underlying u=some (.int ku))
  (hn:0≤n∧n*bytes≤140737488355328) (qE:dF lo z.length bytes x n.toNat (bZ n.toNat z) H=some (v,H')) (hx:RV m x rx) (QP:size=z.length) (F8:z.all fU=true) (Rw:z.all iV=true) (C0:1≤z.length)
  (hR:Rel m L0 H w) (dP:L0≤lo) (hf:∀b,H.length≤b→b<H'.length→m b=none) :
  bT P (do pure (.value (←Builtin.append_ #[t,u] ty #[rx,.int .i64 n]))) L0 lo m H w v H':=by
 obtain⟨e,FX,LD⟩:=gY ht
 obtain⟨i,de,zz,hi,_,E6,rfl,rfl,rfl,rfl⟩:=gH LD
 obtain⟨k,rfl⟩:=Int.eq_ofNat_of_zero_le hn.1
 simp only[Int.toNat_natCast] at qE
 have xE:1≤i.bytes:=by
  unfold dF at qE
  split at qE
  ·rename_i h;exact h.1
  ·cases qE
 have hkb:k*i.bytes≤140737488355328:=by have:=hn.2;omega
 have hk:k≤140737488355328:=Nat.le_trans (Nat.le_mul_of_pos_right _ xE) hkb
 have Aa:i.size=zz.cells.size:=by rw[QP,dN]
 have SN:1≤zz.cells.size:=by rw[dN];exact C0
 have rE:(Builtin.zeroCells zz.cells k).toList=bZ k (aK zz):=by rw[Dh _ _ SN,eY]
 have aeS:k*i.size=0→Builtin.zeroCells zz.cells k = #[]:=by
  intro h0
  apply Array.ext'
  rw[rE]
  exact List.eq_nil_of_length_eq_zero (by rw[qF,←QP];exact h0)
 obtain⟨rv,w',m',g1,g2,g3,g4⟩:=FD (P:=P) (s:=Builtin.append_ #[t,u] ty #[rx,.int .i64 k]) (e:=e) (mP:=bZ k (aK zz)) qE hR dP hx (sD k Rw C0) hf
  (fun a n c w' Gy wU Cs=>by
   subst Gy
   exact Jj FX hu hi E6 hk hkb wU aeS (by rw[rE,QP];exact Cs))
  (fun Gy hk0=>by
   subst Gy
   subst hk0
   exact K4 FX hu hi)
  (fun base n c Af Gy WA kB hg hb=>by
   subst Gy
   refine⟨grownCap w (n+k) c e,_,grownCap_ge w _ _ _,Je FX hu hi E6 hk hkb (by rw[QP];exact WA) aeS hg xE hb,?_,?_⟩
   ·have vZ:=grownCap_ge w (n+k) c e
    simp only[Array.size_append,List.size_toArray,size_zeroCells,kB,dN]
    rw[←Nat.add_mul,←Nat.add_mul]
    congr 1
    omega
   ·intro j hj
    exact zO _ _ _ (by simp[rE]) j hj)
 exact bT.value g1 g2 g3 g4
theorem S7 {t ty:TypeId} {ts:List TypeId} {agg:Bool} {size bytes lo b o d c k:Nat} {z new:List Value} {y rx ry:Value} {H':aF} (ht:iC P t=some (agg,size,z,bytes))
  (hk:oL y=some k) (Di:gU H size (Nat.min k d) y=some new) (hw:H.write lo b o new=some H') (hx:RV m (.slice (some ⟨b,o,none⟩) d c) rx) (hy:RV m y ry)
  (hR:Rel m L0 H w) (dP:L0≤lo) :
  bT P (do pure (.value (←Builtin.copy_ (t::ts).toArray ty #[rx,ry]))) L0 lo m H w (.int .i64 (Nat.min k d)) H':=by
 obtain⟨e,FX,LD⟩:=gY ht
 obtain⟨i,de,zz,hi,_,E6,rfl,rfl,rfl,rfl⟩:=gH LD
 obtain⟨mP,h1,h2,h3⟩:=Fu (P:=P) Di hk (Nat.min_le_left _ _) hR hy
 have hl:=EX hk hy
 cases hx with
 |
  slice _ _ _ _ l ra rc hm hn hc hxp ha =>
  rcases ha with ha | ⟨rfl,ha⟩
  ·have Ar:d=0:=by omega
   subst Ar
   have XQ:Nat.min k 0=0:=Nat.min_zero k
   rw[XQ] at Di h3 ⊢
   have rE:new=[]:=by
    have:mP.length=new.length:=h1.1.symm
    unfold gU at Di
    split at Di
    ·obtain⟨_,_,_,_,_,_,hlen⟩:=Kz Di
     exact List.eq_nil_of_length_eq_zero (by simpa using hlen)
    ·split at Di
     ·cases Di;rfl
     ·cases Di
    ·split at Di
     ·cases Di;simp
     ·cases Di
    ·cases Di
   subst rE
   have hrn:mP=[]:=List.eq_nil_of_length_eq_zero h1.1.symm
   subst hrn
   have hHH:H'=H:=by
    obtain⟨cs,e',p',q1,q2,q3,q4,rfl⟩:=yH hw
    apply List.ext_getElem?
    intro j
    by_cases hj:b=j
    ·subst hj
     rw[List.getElem?_set_self (List.getElem?_eq_some_iff.1 q1).1,q1]
     simp[gJ]
    ·rw[List.getElem?_set_ne hj]
   rw[hHH]
   refine bT.value (rv := .int .i64 0) (w':=w) ?_ (.int _ _) hR (Trans.refl lo m _ w)
   have hf0:=h3 w rfl
   simp[Builtin.copy_,run_underlying FX,hl,run_sizeOf e i hi,goInt,hf0,storeCells]
  ·obtain⟨w',s1,s2,s3⟩:=Bz P hR dP hm hw h1
   refine bT.value (rv := .int .i64 (Nat.min k d)) ?_ (.int _ _) s2 s3
   have hf0:=h3 w rfl
   unfold Builtin.copy_
   simp only[List.getElem?_toArray,List.getElem?_cons_zero,List.getElem?_cons_succ,Sem.run_bind,run_underlying FX,Result.andThen_ok,hl,Sem.run_pure,run_sizeOf e i hi]
   rw[hf0]
   simp only[Result.andThen_ok,s1,goInt]
theorem O9 {t ty e:TypeId} {ts:List TypeId} {i:TypeInfo} {zz:Value} {lo b o n c:Nat} {rx:Value} {H':aF} (FX:P.underlying t=some (.slice e)) (hi:P.info? e=some i) (E6:i.zero=some zz)
  (Gd:n≠0) (hw:H.write lo b o (bZ n (aK zz))=some H') (hx:RV m (.slice (some ⟨b,o,none⟩) n c) rx) (Rw:(aK zz).all iV=true) (C0:1≤(aK zz).length) (hR:Rel m L0 H w) (dP:L0≤lo) :
  bT P (do pure (.value (←Builtin.clear_ (t::ts).toArray ty #[rx]))) L0 lo m H w undef H':=by
 cases hx with
 |
  slice _ _ _ _ l ra rc hm hn hc hxp ha =>
  rcases ha with ha | ⟨rfl,ha⟩
  ·omega
  ·obtain⟨w',s1,s2,s3⟩:=Bz P hR dP hm hw (sD n Rw C0)
   have rE:(Builtin.zeroCells zz.cells n).toList=bZ n (aK zz):=by rw[Dh _ _ (by rw[dN];exact C0),eY]
   refine bT.value (rv:=undef) ?_ (RV.undef m) s2 s3
   rw[←rE] at s1
   obtain⟨n',rfl⟩:∃n',n=n'+1:=⟨n-1,by omega⟩
   simp[Builtin.clear_,run_underlying FX,zeroValue,typeInfo,hi,E6,s1,undef]
theorem Fo {t ty e:TypeId} {ts:List TypeId} {lo c:Nat} {a:Option Addr} {rx:Value} (FX:P.underlying t=some (.slice e)) (hx:RV m (.slice a 0 c) rx) (hR:Rel m L0 H w) :
  bT P (do pure (.value (←Builtin.clear_ (t::ts).toArray ty #[rx]))) L0 lo m H w undef H:=by
 refine bT.value (rv:=undef) (w':=w) ?_ (RV.undef m) hR (Trans.refl lo m _ w)
 cases hx<;>simp[Builtin.clear_,run_underlying FX,undef]
end
end Go.PM
namespace Go.PM
section
variable {P:Program} {m:cK} {L0:Nat} {H:aF} {w:World}
theorem AU {po:kO} {ρ:Env} {v:Value} {H':aF} (h:(gC po ρ).map (Out.val · H)=some (.val v H')):gC po ρ=some v∧H'=H:=by
 cases hp:gC po ρ with
 | none=>rw[hp] at h;cases h
 | some u=>rw[hp] at h;cases h;exact⟨rfl,rfl⟩
def pP:kO→Bool
 | .load .. | .sub .. | .b2s _ | .new _ | .box _ | .make .. | .lit .. | .call .. | .store .. | .app .. | .appz .. | .copy .. | .clear .. | .callv .. => false
 | _=>true
theorem tR {lo:Nat} {po:kO} {ρ:Env} (h:pP po=true):pop lo po ρ H=(gC po ρ).map (.val · H):=by
 cases po<;>first | rfl | cases h
theorem NO {pv rv:Value} {k:Nat} (size:Nat) (h:oL pv=some k) (hr:RV m pv rv):(Builtin.firstCells size 0 rv).run P w = .ok #[] w:=by
 unfold oL at h
 split at h
 ·cases hr
  ·rfl
  ·simp only[Builtin.firstCells,Nat.zero_mul]
   rfl
 ·cases hr
  simp[Builtin.firstCells]
 ·cases h
theorem Ry {o:Oper} {po:kO} {ρ:Env} {a:Act} {lo:Nat} {v:Value} {H':aF} (hp:mM P o.op=some po) (hv:pop lo po ρ H=some (.val v H')) (hr:∀x∈o.op.operands,RV m (ev ρ x) (a.eval x))
  (hR:Rel m L0 H w) (dP:L0≤lo) (hf:∀b,H.length≤b→b<H'.length→m b=none):bT P (execOp a.eval o) L0 lo m H w v H':=by
 by_cases gM:pP po=true
 ·rw[tR gM] at hv
  obtain⟨h1,rfl⟩:=AU hv
  obtain⟨rv,h2,h3⟩:=U9 hp h1 hr
  exact⟨rv,w,m,.inl (h3 w),h2,hR,Trans.refl lo m _ w⟩
 obtain⟨dst,op,type,pos,after,guard⟩:=o
 unfold mM at hp
 simp only at hp hr ⊢
 split at hp
 case isFalse=>cases hp
 cases op with
 | move x=>cases hp;exact absurd rfl gM
 | assign x=>cases hp;exact absurd rfl gM
 | pick c x y=>cases hp;exact absurd rfl gM
 |
  binOp op t x y yt =>
  unfold yN at hp
  simp only at hp
  split at hp
  ·cases hp;exact absurd rfl gM
  ·cases hp;exact absurd rfl gM
  ·split at hp<;>first | (cases hp;done) | (cases hp;exact absurd rfl gM)
  ·split at hp<;>first | (cases hp;done) | (split at hp<;>first | (cases hp;done) | (cases hp;exact absurd rfl gM))
  ·split at hp<;>first | (cases hp;done) | (cases hp;exact absurd rfl gM)
  ·cases hp
 | unOp op t x=>cases hp;exact absurd rfl gM
 | extract x i=>cases hp;exact absurd rfl gM
 |
  convert s d x =>
  have hx:=hr x (by simp[Op.operands])
  simp only at hp
  split at hp
  ·cases hp;exact absurd rfl gM
  ·cases hp;exact absurd rfl gM
  ·rename_i e hs hd
   split at hp
   ·rename_i he
    cases hp
    simp only[pop] at hv
    split at hv
    ·rename_i n c Wh
     cases hv
     rw[Wh] at hx
     show bT P (do pure (.value (←convert s d (a.eval x)))) L0 lo m H w _ H
     generalize a.eval x=rx at hx ⊢
     cases hx
     refine bT.value (rv := .string ByteArray.empty) ?_ (.str _) hR (Trans.refl lo m _ w)
     simp[convert,run_underlying hs,run_underlying hd,run_underlying he,Conv.bytesToString]
    ·rename_i b o n c Wh
     split at hv
     ·rename_i cs OD
      cases hb:pO cs with
      | none=>rw[hb] at hv;cases hv
      |
       some bs =>
       rw[hb] at hv
       cases hv
       rw[Wh] at hx
       exact Vg hs hd he OD hb hR hx
     ·cases hv
    ·cases hv
   ·cases hp
  ·cases hp
 |
  field t x i =>
  simp only at hp
  split at hp
  ·split at hp
   ·rename_i f hf'
    cases ht:jP P f.type with
    | none=>rw[ht] at hp;cases hp
    | some q=>rw[ht] at hp;cases hp;exact absurd rfl gM
   ·cases hp
  ·cases hp
 |
  build t parts =>
  simp only at hp
  split at hp
  ·split at hp
   ·split at hp
    ·cases hp;exact absurd rfl gM
    ·cases hp
   ·cases hp
  ·cases hp
 | nilCheck x=>cases hp;exact absurd rfl gM
 |
  fieldAddr t x i =>
  simp only at hp
  split at hp
  ·split at hp
   ·split at hp
    ·split at hp
     ·cases hp
     ·cases hp;exact absurd rfl gM
    ·cases hp
   ·cases hp
  ·cases hp
 |
  indexAddr t x i =>
  simp only at hp
  cases ht:iC P t with
  | none=>rw[ht] at hp;cases hp
  | some q=>rw[ht] at hp;cases hp;exact absurd rfl gM
 |
  index t x i =>
  simp only at hp
  split at hp
  ·cases hp;exact absurd rfl gM
  ·cases hp
 |
  slice t x As hi mx =>
  have hx:=hr x (by simp[Op.operands])
  simp only at hp
  split at hp
  ·split at hp
   ·cases hp;exact absurd rfl gM
   ·cases hp
  ·rename_i e hu
   cases ht:jP P e with
   | none=>rw[ht] at hp;cases hp
   |
    some q =>
    obtain⟨agg,size,z,nb⟩:=q
    rw[ht] at hp
    cases hp
    obtain⟨i,d,zz,B1,_,_,rfl,rfl,rfl,rfl⟩:=gH ht
    simp only[pop] at hv
    cases hs:Ah i.size (ev ρ x) (As.map (ev ρ)) (hi.map (ev ρ)) (mx.map (ev ρ)) H with
    | none=>rw[hs] at hv;cases hv
    |
     some q =>
     obtain⟨u,H1⟩:=q
     rw[hs] at hv
     cases hv
     exact Uh hu B1 hs hx (RO.map fun y hy=>hr y (by simp[Op.operands,hy])) (RO.map fun y hy=>hr y (by simp[Op.operands,hy])) (RO.map fun y hy=>hr y (by simp[Op.operands,hy])) hR hf
  ·cases hp
 |
  makeFunc fn first eV =>
  cases fn with
  |
   func f =>
   simp only at hp
   split at hp
   ·cases hp;exact absurd rfl gM
   ·cases hp
  | _=>cases hp
 | makeInterface t x=>cases hp;exact absurd rfl gM
 | panic x=>cases hp;exact absurd rfl gM
 |
  load t p =>
  have hx:=hr p (by simp[Op.operands])
  simp only at hp
  cases ht:jP P t with
  | none=>rw[ht] at hp;cases hp
  |
   some q =>
   obtain⟨agg,size,z,nb⟩:=q
   rw[ht] at hp
   cases hp
   simp only[pop] at hv
   cases hl:kU agg size (ev ρ p) H with
   | none=>rw[hl] at hv;cases hv
   |
    some u =>
    rw[hl] at hv
    cases hv
    obtain⟨rv,h1,h2⟩:=JJ ht hl hR hx
    exact bT.value h2 h1 hR (Trans.refl lo m _ w)
 |
  store t p x =>
  have hpp:=hr p (by simp[Op.operands])
  have hx:=hr x (by simp[Op.operands])
  simp only at hp
  cases ht:P.info? t with
  | none=>rw[ht] at hp;cases hp
  |
   some i =>
   rw[ht] at hp
   cases hp
   simp only[pop] at hv
   split at hv
   ·rename_i b o hpo
    split at hv
    ·rename_i hs
     cases hw:H.write lo b o (aK (ev ρ x)) with
     | none=>rw[hw] at hv;cases hv
     |
      some H1 =>
      rw[hw] at hv
      cases hv
      rw[hpo] at hpp
      exact P0 ht hpp hx hs hw hR dP
    ·cases hv
   ·cases hv
 |
  alloc t =>
  simp only at hp
  split at hp
  ·rename_i agg size z nb ht
   split at hp
   ·rename_i hz
    cases hp
    simp only[Bool.and_eq_true] at hz
    cases hv
    exact VN ht hz.1 hz.2 hR (hf _ (Nat.le_refl _) (by simp))
   ·cases hp
  ·cases hp
 |
  box t x =>
  have hx:=hr x (by simp[Op.operands])
  cases hp
  simp only[pop] at hv
  split at hv
  ·rename_i hs
   cases hv
   exact UH hx hs hR (hf _ (Nat.le_refl _) (by simp))
  ·cases hv
 |
  makeSlice t l c =>
  have hl:=hr l (by simp[Op.operands])
  have hc:=hr c (by simp[Op.operands])
  simp only at hp
  split at hp
  ·rename_i agg size z nb ht
   split at hp
   ·rename_i hz
    cases hp
    simp only[Bool.and_eq_true,beq_iff_eq,decide_eq_true_eq] at hz
    obtain⟨⟨⟨z1,z2⟩,z3⟩,z4⟩:=hz
    simp only[pop] at hv
    split at hv
    ·rename_i l' c' AR W8
     split at hv
     ·rename_i hb
      cases hv
      rw[AR] at hl
      rw[W8] at hc
      show bT P (do pure (.value (←Instr.makeSlice t (a.eval l) (a.eval c)))) L0 lo m H w _ _
      generalize a.eval l=rl at hl ⊢
      generalize a.eval c=rc at hc ⊢
      cases hl
      cases hc
      exact SO ht z1 z2 z3 z4 hb.1 hb.2.1 hb.2.2.1 hb.2.2.2 hR (hf _ (Nat.le_refl _) (by simp))
     ·cases hv
    ·cases hv
   ·cases hp
  ·cases hp
 |
  buildSlice t n parts =>
  simp only at hp
  split at hp
  ·rename_i agg size z nb ht
   split at hp
   ·rename_i hz
    cases hp
    simp only[Bool.and_eq_true,beq_iff_eq,decide_eq_true_eq] at hz
    obtain⟨⟨⟨⟨z1,z2⟩,z3⟩,z4⟩,z5⟩:=hz
    simp only[pop] at hv
    split at hv
    ·rename_i cs OD
     split at hv
     ·rename_i zG
      cases hv
      have:=Ue (P:=P) (w:=w) (lo:=lo) (a:=a) ht z1 z2 z3 z4 z5 OD zG (fun p hpm=>hr p.2 (by simp only[Op.operands];simp;exact⟨p.1,by simpa using hpm⟩)) hR (hf _ (Nat.le_refl _) (by simp))
      rw[Array.toArray_toList] at this
      exact this
     ·cases hv
    ·cases hv
   ·cases hp
  ·cases hp
 |
  call c =>
  obtain⟨callee,args,ts⟩:=c
  cases callee with
  |
   builtin b =>
   have OC:∀x∈args,RV m (ev ρ x) (a.eval x):=fun x hx=>hr x (by simpa[Op.operands,Call.operands] using hx)
   simp only at hp
   unfold kX at hp
   split at hp
   ·split at hp<;>first | (cases hp;done) | (cases hp;exact absurd rfl gM)
   ·split at hp<;>first | (cases hp;done) | (cases hp;exact absurd rfl gM)
   ·cases hp;exact absurd rfl gM
   ·cases hp;exact absurd rfl gM
   ·rename_i x y t u AQ sS Yd _
    have ea:args = #[x,y]:=Array.toList_inj.1 (by simpa using sS)
    subst ea
    have hx:=OC x (by simp)
    have hy:=OC y (by simp)
    have akJ:∃tr,ts=(t::u::tr).toArray:=⟨AQ,Array.toList_inj.1 (by simpa using Yd)⟩
    obtain⟨tr,rfl⟩:=akJ
    show bT P (do pure (.value (←Builtin.append_ (t::u::tr).toArray type ((#[x,y]:Array Operand).map a.eval)))) L0 lo m H w v H'
    rw[GM]
    have akU:∀r1 r2,Builtin.append_ (t::u::tr).toArray type #[r1,r2]=Builtin.append_ #[t,u] type #[r1,r2]:=fun r1 r2=>by simp[Builtin.append_]
    rw[akU]
    split at hp
    ·rename_i agg size zero bytes ku ht hu
     split at hp
     ·rename_i hz
      cases hp
      simp only[Bool.and_eq_true,beq_iff_eq,decide_eq_true_eq] at hz
      obtain⟨⟨⟨z1,z2⟩,z3⟩,z4⟩:=hz
      simp only[pop] at hv
      split at hv
      ·rename_i n hn
       split at hv
       ·rename_i hb
        cases qE:dF lo zero.length bytes (ev ρ x) n.toNat (bZ n.toNat zero) H with
        | none=>rw[qE] at hv;cases hv
        |
         some q =>
         obtain⟨u',H1⟩:=q
         rw[qE] at hv
         cases hv
         rw[hn] at hy
         generalize a.eval y=ry at hy ⊢
         cases hy
         exact Tx ht hu hb qE hx z4 z1 z2 z3 hR dP hf
       ·cases hv
      ·cases hv
     ·cases hp
    ·rename_i agg size zero bytes d _ ht hu
     split at hp
     ·rename_i hd
      split at hp
      ·rename_i QP
       cases hp
       simp only[pop] at hv
       split at hv
       ·rename_i k hk
        split at hv
        ·rename_i new rE
         cases qE:dF lo size bytes (ev ρ x) k new H with
         | none=>rw[qE] at hv;cases hv
         |
          some q =>
          obtain⟨u',H1⟩:=q
          rw[qE] at hv
          cases hv
          exact T9 ht hu hd hk rE qE hx hy (by simpa using QP) hR dP hf
        ·cases hv
       ·cases hv
      ·cases hp
     ·cases hp
    ·cases hp
   ·rename_i x y t AQ sS Yd _
    have ea:args = #[x,y]:=Array.toList_inj.1 (by simpa using sS)
    have et:ts=(t::AQ).toArray:=Array.toList_inj.1 (by simpa using Yd)
    subst ea;subst et
    have hx:=OC x (by simp)
    have hy:=OC y (by simp)
    show bT P (do pure (.value (←Builtin.copy_ (t::AQ).toArray type ((#[x,y]:Array Operand).map a.eval)))) L0 lo m H w v H'
    rw[GM]
    split at hp
    ·rename_i agg size zero bytes ht
     cases hp
     simp only[pop] at hv
     split at hv
     ·rename_i n c k Wh hk
      cases hv
      rw[Wh] at hx
      generalize a.eval x=rx at hx ⊢
      cases hx
      obtain⟨e,FX,LD⟩:=gY ht
      obtain⟨i,de,zz,hi,_,E6,_,_,_,_⟩:=gH LD
      refine bT.value (rv := .int .i64 0) (w':=w) ?_ (.int _ _) hR (Trans.refl lo m _ w)
      have hl:=EX hk hy
      have hf0:=NO (P:=P) (w:=w) i.size hk hy
      simp[Builtin.copy_,run_underlying FX,hl,run_sizeOf e i hi,goInt,hf0]
     ·rename_i b o d c k Wh hk
      split at hv
      ·rename_i new rE
       cases hw:H.write lo b o new with
       | none=>rw[hw] at hv;cases hv
       |
        some H1 =>
        rw[hw] at hv
        cases hv
        rw[Wh] at hx
        exact S7 ht hk rE hw hx hy hR dP
      ·cases hv
     ·cases hv
    ·cases hp
   ·rename_i x t AQ sS Yd _
    have ea:args = #[x]:=Array.toList_inj.1 (by simpa using sS)
    have et:ts=(t::AQ).toArray:=Array.toList_inj.1 (by simpa using Yd)
    subst ea;subst et
    have hx:=OC x (by simp)
    show bT P (do pure (.value (←Builtin.clear_ (t::AQ).toArray type ((#[x]:Array Operand).map a.eval)))) L0 lo m H w v H'
    rw[K1]
    split at hp
    ·rename_i agg size zero bytes ht
     split at hp
     ·rename_i hz
      cases hp
      simp only[Bool.and_eq_true,beq_iff_eq,decide_eq_true_eq] at hz
      obtain⟨⟨⟨z1,z2⟩,z3⟩,z4⟩:=hz
      obtain⟨e,FX,LD⟩:=gY ht
      obtain⟨i,de,zz,hi,_,E6,rfl,rfl,rfl,rfl⟩:=gH LD
      simp only[pop] at hv
      split at hv
      ·rename_i n c Wh
       cases hv
       rw[Wh] at hx
       generalize a.eval x=rx at hx ⊢
       cases hx
       exact Fo FX .Ln hR
      ·rename_i b o n c Wh
       rw[Wh] at hx
       split at hv
       ·rename_i Gd
        cases hv
        subst Gd
        exact Fo FX hx hR
       ·rename_i Gd
        cases hw:H.write lo b o (bZ n (aK zz)) with
        | none=>rw[hw] at hv;cases hv
        |
         some H1 =>
         rw[hw] at hv
         cases hv
         exact O9 FX hi E6 Gd hw hx z2 z4 hR dP
      ·cases hv
     ·cases hp
    ·cases hp
   ·cases hp
  |
   value f =>
   cases f with
   | func g=>cases hp;cases hv
   |
    tmp t =>
    cases hp
    simp only[pop] at hv
    split at hv<;>cases hv
   | const c=>cases hp
   | global g=>cases hp
  | invoke r s=>cases hp
 | _=>cases hp
def HM (P:Program) (f:Nat):Prop:=∃fn,P.funcs[f]? = some fn∧(fn.name == "runtime.NumGoroutine")=false∧fn.body.isNone=false
theorem Dr {f:Nat} {args:Array Value} (h:HM P f):(callFunc f args).run P w = .ok (.enter f args) w:=by
 obtain⟨fn,h1,h2,h3⟩:=h
 unfold callFunc
 rw[Sem.run_bind,run_program,Result.andThen_ok,h1]
 simp[h2,h3]
theorem map_none {α β:Type} {o:Option α} {f:α→β} {x:β} (h:o.map f=some x) (hf:∀y,f y≠x):False:=by
 cases o with
 | none=>cases h
 | some y=>injection h with h;exact hf y h
theorem Ti {op:Op} {g:Nat} {as:List Operand} (h:mM P op=some (.call g as)):∃args ts,op = .call ⟨.value (.func g),args,ts⟩∧as=args.toList:=by
 unfold mM at h
 split at h
 case isFalse=>cases h
 cases op with
 |
  call c =>
  obtain⟨callee,args,ts⟩:=c
  cases callee with
  |
   builtin b =>
   exfalso
   simp only[kX] at h
   repeat' (split at h)
   all_goals cases h
  |
   value f =>
   cases f with
   | func g'=>cases h;exact⟨args,ts,rfl,rfl⟩
   | _=>cases h
  | invoke r s=>cases h
 |
  _ =>
  exfalso
  dsimp only at h
  try unfold yN at h
  repeat' (split at h)
  all_goals first
   | contradiction
   | (cases h;done)
   | exact map_none h (by intro y h;cases h)
theorem P3 {op:Op} {fv:Operand} {as:List Operand} (h:mM P op=some (.callv fv as)):∃args ts,op = .call ⟨.value fv,args,ts⟩∧as=args.toList:=by
 unfold mM at h
 split at h
 case isFalse=>cases h
 cases op with
 |
  call c =>
  obtain⟨callee,args,ts⟩:=c
  cases callee with
  |
   builtin b =>
   exfalso
   simp only[kX] at h
   repeat' (split at h)
   all_goals cases h
  |
   value f =>
   cases f with
   | tmp g'=>cases h;exact⟨args,ts,rfl,rfl⟩
   | _=>cases h
  | invoke r s=>cases h
 |
  _ =>
  exfalso
  dsimp only at h
  try unfold yN at h
  repeat' (split at h)
  all_goals first
   | contradiction
   | (cases h;done)
   | exact map_none h (by intro y h;cases h)
theorem oH {po:kO} {ρ:Env} {lo f:Nat} {args:List Value} (hv:pop lo po ρ H=some (.call f args)):(∃g as,po = .call g as)∨(∃g as,po = .callv g as):=by
 by_cases gM:pP po=true
 ·rw[tR gM] at hv
  cases hpp:gC po ρ with
  | none=>rw[hpp] at hv;cases hv
  | some u=>rw[hpp] at hv;cases hv
 cases po<;>first | exact absurd rfl gM | exact .inl ⟨_,_,rfl⟩ | exact .inr ⟨_,_,rfl⟩ | skip
 all_goals
  exfalso
  simp only[pop] at hv
  repeat' (split at hv)
  all_goals first
   | (cases hv;done)
   | (revert hv;generalize aF.write _ _ _ _ _=q;cases q<;>intro hv<;>cases hv)
   | (revert hv;generalize kU _ _ _ _=q;cases q<;>intro hv<;>cases hv)
   | (revert hv;generalize Ah _ _ _ _ _ _=q;cases q<;>intro hv<;>cases hv)
   | (revert hv;generalize dF _ _ _ _ _ _ _=q;cases q<;>intro hv<;>cases hv)
   | (revert hv;generalize pO _=q;cases q<;>intro hv<;>cases hv)
theorem SQ {o:Oper} {po:kO} {ρ:Env} {a:Act} {lo f:Nat} {args:List Value} (hp:mM P o.op=some po) (hv:pop lo po ρ H=some (.call f args)) (hr:∀x∈o.op.operands,RV m (ev ρ x) (a.eval x)) :
  ∃fN,RL m args fN∧(HM P f→∀w,(execOp a.eval o).run P w = .ok (.enter f fN.toArray) w):=by
 have key:=oH hv
 obtain⟨dst,op,type,pos,after,guard⟩:=o
 simp only at hp hr ⊢
 rcases key with⟨g,as,rfl⟩ | ⟨g,as,rfl⟩
 ·obtain⟨yY,ts,rfl,rfl⟩:=Ti hp
  cases hv
  refine⟨yY.toList.map a.eval,RL.map fun x hx=>hr x (by simp[Op.operands,Call.operands];right;simpa using hx),fun hc w => ?_⟩
  have e1:(yY.toList.map a.eval).toArray=yY.map a.eval:=Array.toList_inj.1 (by rw[Array.toList_map])
  rw[e1]
  have e2:execOp a.eval ⟨dst,.call ⟨.value (.func f),yY,ts⟩,type,pos,after,guard⟩=callFunc f ((#[]++yY.map a.eval) ++ #[]):=rfl
  rw[e2,Dr hc]
  simp
 ·obtain⟨yY,ts,rfl,rfl⟩:=P3 hp
  have hg:=hr g (by simp[Op.operands,Call.operands])
  simp only[pop] at hv
  split at hv
  ·rename_i f' first eV hfv
   cases hv
   rw[hfv] at hg
   generalize hrg:a.eval g=rg at hg
   cases hg with
   |
    func fn f1 g1 c1 d1 h1 h2 h3 h4 =>
    refine⟨g1.toList++yY.toList.map a.eval++d1.toList,((RL.arr h1 h2).append (RL.map fun x hx=>hr x (by simp[Op.operands,Call.operands];right;simpa using hx))).append (RL.arr h3 h4),fun hc w => ?_⟩
    have e1:(g1.toList++yY.toList.map a.eval++d1.toList).toArray=(g1++yY.map a.eval)++d1:=by
     apply Array.ext'
     simp
    rw[e1]
    have e2:(execOp a.eval ⟨dst,.call ⟨.value g,yY,ts⟩,type,pos,after,guard⟩)=(do let d ←Deferred.ofValue (a.eval g) (yY.map a.eval);invoke d.target d.args):=rfl
    rw[e2,hrg]
    show (callFunc f ((g1++yY.map a.eval)++d1)).run P w=_
    exact Dr hc
  ·cases hv
end
end Go.PM
namespace Go.PM
section
variable {H:aF}
theorem S5 {lo:Nat} {H':aF} (h:Ext H.length H H'):Ext lo H H' :=
 ⟨h.len,fun b _ hl=>h.low b hl hl,h.liv⟩
theorem FR {lo size bytes add:Nat} {x v:Value} {new:List Value} {H':aF} (h:dF lo size bytes x add new H=some (v,H')):Ext lo H H':=by
 unfold dF at h
 split at h
 case isFalse=>cases h
 split at h
 ·split at h
  ·split at h
   ·cases h;exact Ext.refl _ _
   ·split at h
    ·cases h;exact mC _ _ _
    ·cases h
  ·cases h
 ·split at h
  ·split at h
   ·split at h
    ·split at h
     ·cases h;exact Ext.refl _ _
     ·cases hw:aF.write H lo _ _ new with
      | none=>rw[hw] at h;cases h
      | some H1=>rw[hw] at h;cases h;exact BE hw
    ·split at h
     ·split at h
      ·split at h
       ·rename_i Ch
        cases h
        exact Sa Ch
       ·cases h
      ·cases h;exact mC _ _ _
     ·cases h
   ·cases h
  ·cases h
 ·cases h
theorem Xe {lo size:Nat} {x v:Value} {l h' mx:Option Value} {H':aF} (h:Ah size x l h' mx H=some (v,H')):Ext lo H H':=by
 unfold Ah at h
 repeat' (split at h)
 all_goals first
  | (cases h;done)
  | (cases h;exact Ext.refl _ _)
  | (cases h;exact mC _ _ _)
theorem Qd {lo:Nat} {po:kO} {ρ:Env} {v:Value} {H':aF} (h:pop lo po ρ H=some (.val v H')):Ext lo H H':=by
 by_cases gM:pP po=true
 ·rw[tR gM] at h
  obtain⟨_,rfl⟩:=AU h
  exact Ext.refl _ _
 cases po<;>first | exact absurd rfl gM | skip
 case load agg size p =>
  simp only[pop] at h
  cases hl:kU agg size (ev ρ p) H with
  | none=>rw[hl] at h;cases h
  | some u=>rw[hl] at h;cases h;exact Ext.refl _ _
 case sub size x l hh mx =>
  simp only[pop] at h
  cases hs:Ah size (ev ρ x) (l.map (ev ρ)) (hh.map (ev ρ)) (mx.map (ev ρ)) H with
  | none=>rw[hs] at h;cases h
  |
   some q =>
   obtain⟨u,H1⟩:=q
   rw[hs] at h;cases h;exact Xe hs
 case b2s x =>
  simp only[pop] at h
  split at h
  ·cases h;exact Ext.refl _ _
  ·split at h
   ·rename_i cs _
    cases hb:pO cs with
    | none=>rw[hb] at h;cases h
    | some bs=>rw[hb] at h;cases h;exact Ext.refl _ _
   ·cases h
  ·cases h
 case new z=>cases h;exact mC _ _ _
 case box x =>
  simp only[pop] at h
  split at h
  ·cases h;exact mC _ _ _
  ·cases h
 case make z b l c =>
  simp only[pop] at h
  split at h
  ·split at h
   ·cases h;exact mC _ _ _
   ·cases h
  ·cases h
 case lit z n parts =>
  simp only[pop] at h
  split at h
  ·split at h
   ·cases h;exact mC _ _ _
   ·cases h
  ·cases h
 case call f args=>cases h
 case callv f args =>
  simp only[pop] at h
  split at h<;>cases h
 case store size p x =>
  simp only[pop] at h
  split at h
  ·rename_i b o _
   split at h
   ·cases hw:H.write lo b o (aK (ev ρ x)) with
    | none=>rw[hw] at h;cases h
    | some H1=>rw[hw] at h;cases h;exact BE hw
   ·cases h
  ·cases h
 case app size bytes x y =>
  simp only[pop] at h
  split at h
  ·rename_i n _
   split at h
   ·rename_i new _
    cases ha:dF lo size bytes (ev ρ x) n new H with
    | none=>rw[ha] at h;cases h
    |
     some q =>
     obtain⟨u,H1⟩:=q
     rw[ha] at h;cases h;exact FR ha
   ·cases h
  ·cases h
 case appz z bytes x n =>
  simp only[pop] at h
  split at h
  ·rename_i k _
   split at h
   ·cases ha:dF lo z.length bytes (ev ρ x) k.toNat (bZ k.toNat z) H with
    | none=>rw[ha] at h;cases h
    |
     some q =>
     obtain⟨u,H1⟩:=q
     rw[ha] at h;cases h;exact FR ha
   ·cases h
  ·cases h
 case copy size x y =>
  simp only[pop] at h
  split at h
  ·cases h;exact Ext.refl _ _
  ·rename_i b o d _ s _ _
   split at h
   ·rename_i new _
    cases hw:H.write lo b o new with
    | none=>rw[hw] at h;cases h
    | some H1=>rw[hw] at h;cases h;exact BE hw
   ·cases h
  ·cases h
 case clear z x =>
  simp only[pop] at h
  split at h
  ·cases h;exact Ext.refl _ _
  ·rename_i b o n _ _
   split at h
   ·cases h;exact Ext.refl _ _
   ·cases hw:H.write lo b o (bZ n z) with
    | none=>rw[hw] at h;cases h
    | some H1=>rw[hw] at h;cases h;exact BE hw
  ·cases h
def nX (call:fC):Prop:=∀f args lo H v H',call f args lo H=some (v,H')→Ext lo H H'
theorem HN {call:fC} (hc:nX call) {lo:Nat} {i:PI} {ρ:Env} {v:Value} {H':aF} (h:uC call lo i ρ H=some (v,H')):Ext lo H H':=by
 unfold uC at h
 split at h
 ·cases h
 ·cases h;exact Ext.refl _ _
 ·split at h
  ·split at h
   ·rename_i hp
    cases h
    exact Qd hp
   ·rename_i f args _
    have:=hc _ _ _ _ _ _ h
    split at this
    ·exact S5 this
    ·exact this
   ·cases h
  ·cases h
theorem sO {call:fC} {lo:Nat} {i:PI} {ρ aP:Env} {H':aF} (h:tN call lo i ρ H=some (aP,H')):∃v,uC call lo i ρ H=some (v,H')∧aP=put ρ i.dst v:=by
 unfold tN at h
 split at h
 ·rename_i v H1 hv
  cases h
  exact⟨v,hv,rfl⟩
 ·cases h
theorem Fa {call:fC} (hc:nX call) {lo:Nat} {i:PI} {ρ aP:Env} {H':aF} (h:tN call lo i ρ H=some (aP,H')):Ext lo H H':=by
 obtain⟨v,h1,_⟩:=sO h
 exact HN hc h1
theorem G4 {call:fC} (hc:nX call) {lo:Nat}:∀(is:List PI) {ρ aP:Env} {H H':aF},fT call lo is ρ H=some (aP,H')→Ext lo H H'
 | [],ρ,aP,H,H',h=>by cases h;exact Ext.refl _ _
 |
  i::is,ρ,aP,H,H',h=>by
  rw[fT] at h
  split at h
  ·rename_i h1
   exact(Fa hc h1).trans (G4 hc is h)
  ·cases h
theorem Fj {lo:Nat} {body:Env→aF→Option (Ex×Env×aF)} (hb:∀ρ H x aP H',body ρ H=some (x,aP,H')→Ext lo H H'):∀(n:Nat) {ρ aP:Env} {H H':aF} {x:Ex},tM body n ρ H=some (x,aP,H')→Ext lo H H'
 | 0,_,_,_,_,_,h=>by cases h
 |
  n+1,ρ,aP,H,H',x,h=>by
  rw[tM] at h
  split at h
  ·rename_i h1
   exact(hb _ _ _ _ _ h1).trans (Fj hb n h)
  ·exact hb _ _ _ _ _ h
theorem hJ {call:fC} (hc:nX call) {lo n:Nat}:∀(c:aH) {ρ aP:Env} {H H':aF} {x:Ex},cL call lo n c ρ H=some (x,aP,H')→Ext lo H H'
 | .skip,_,_,_,_,_,h=>by cases h;exact Ext.refl _ _
 |
  .fG ops,ρ,aP,H,H',x,h=>by
  rw[cL] at h
  cases hp:fT call lo ops ρ H with
  | none=>rw[hp] at h;cases h
  |
   some q =>
   obtain⟨yA,H1⟩:=q
   rw[hp] at h;cases h
   exact G4 hc ops hp
 |
  .seq a b,ρ,aP,H,H',x,h=>by
  rw[cL] at h
  split at h
  ·rename_i h1
   exact(hJ hc a h1).trans (hJ hc b h)
  ·exact hJ hc a h
 |
  .cond c a b,ρ,aP,H,H',x,h=>by
  rw[cL] at h
  split at h
  ·split at h
   ·exact hJ hc a h
   ·exact hJ hc b h
  ·cases h
 |
  .block id a,ρ,aP,H,H',x,h=>by
  rw[cL] at h
  split at h
  ·rename_i h1
   split at h<;>(cases h;exact hJ hc a h1)
  ·exact hJ hc a h
 |
  .loop a,ρ,aP,H,H',x,h=>by
  rw[cL] at h
  exact Fj (fun ρ H x aP H' h=>hJ hc a h) n h
 | .exit id,_,_,_,_,_,h=>by cases h;exact Ext.refl _ _
 | .ret,_,_,_,_,_,h=>by cases h;exact Ext.refl _ _
theorem Bp (E:xL) (T:WX):∀n,nX (jN E T n)
 | 0=>fun _ _ _ _ _ _ h=>by cases h
 |
  n+1=>fun f args lo H v H' h=>by
  rw[jN] at h
  split at h
  ·rename_i p _
   cases hp:p args H with
   | none=>rw[hp] at h;cases h
   | some u=>rw[hp] at h;cases h;exact Ext.refl _ _
  ·split at h
   ·cases h
   ·rename_i pf _
    split at h
    ·split at h
     ·rename_i yA H1 h1
      cases hr:nF pf.res yA H1 with
      | none=>rw[hr] at h;cases h
      | some u=>rw[hr] at h;cases h;exact hJ (Bp E T n) _ h1
     ·rename_i yA H1 h1
      cases hr:nF pf.res yA H1 with
      | none=>rw[hr] at h;cases h
      | some u=>rw[hr] at h;cases h;exact hJ (Bp E T n) _ h1
     ·cases h
    ·cases h
end
end Go.PM
namespace Go.PM
theorem Bu {α β:Type} {f:α→Option β}:∀ {l:List α} {ys:List β},l.mapM f=some ys→ys.length=l.length∧∀i (h:i<l.length),f l[i]=ys[i]?
 |
  [],ys,h=>by
  simp at h
  subst h
  exact⟨rfl,fun i h=>absurd h (by simp)⟩
 |
  x::l,ys,h=>by
  simp only[List.mapM_cons,Option.pure_def,Option.bind_eq_bind] at h
  cases h1:f x with
  | none=>rw[h1] at h;cases h
  |
   some y =>
   rw[h1] at h
   cases h2:l.mapM f with
   | none=>rw[h2] at h;cases h
   |
    some zs =>
    rw[h2] at h
    cases h
    obtain⟨k1,k2⟩:=Bu h2
    refine⟨by simp[k1],fun i hi => ?_⟩
    cases i with
    | zero=>simpa using h1
    | succ i=>simpa using k2 i (by simpa using hi)
theorem MF {α β:Type} {f:α→Option β} {l:List α} {ys:List β} (h:l.mapM f=some ys) {i:Nat} {x:α} (hx:l[i]? = some x):∃y,ys[i]? = some y∧f x=some y:=by
 obtain⟨h1,h2⟩:=Bu h
 obtain⟨aR,rfl⟩:=List.getElem?_eq_some_iff.1 hx
 have He:i<ys.length:=by omega
 refine⟨ys[i],List.getElem?_eq_getElem He,?_⟩
 rw[h2 i aR,List.getElem?_eq_getElem He]
def BJ (E:xL) (ops:List Oper) (M:List Nat) (i j:Nat) (pi pj:kO) (l:List (Operand×Operand)):Prop :=
 match eR E pi,eR E pj with
 | .look,.write | .write,.look=>ahead M i j=true∨∃a b,Cb pi=some a∧Cb pj=some b∧BH ops i j a=true∧(a,b)∈l
 | .write,.write | .quiet,.write | .write,.quiet=>ahead M i j=true
 | _,_=>True
theorem BJ.mono {E:xL} {ops:List Oper} {M:List Nat} {i j:Nat} {pi pj:kO} {l l':List (Operand×Operand)} (h:BJ E ops M i j pi pj l) (hl:∀x∈l,x∈l'):BJ E ops M i j pi pj l':=by
 unfold BJ at h ⊢
 split at h
 all_goals first
  | exact h
  | exact h.imp id fun⟨a,b,h1,h2,h3,h4⟩=>⟨a,b,h1,h2,h3,hl _ h4⟩
theorem Iy {E:xL} {ops:List Oper} {ps:List kO} {M:List Nat} {j:Nat} {pj:kO} {l:List (Operand×Operand)} (h:conflicts E ops ps M j pj=some l) :
  ∀i,i<j→∀pi,ps[i]? = some pi→BJ E ops M i j pi pj l:=by
 have key:∀(is:List Nat) (l:List (Operand×Operand)),(is.foldr (fun i acc=>match acc,ps[i]? with
  |
   some l,some pi =>
   match eR E pi,eR E pj with
   |
    .look,.write | .write,.look =>
    if ahead M i j then some l
    else match Cb pi,Cb pj with
     | some a,some b=>if BH ops i j a then some ((a,b)::l) else none
     | _,_=>none
   | .write,.write | .quiet,.write | .write,.quiet=>if ahead M i j then some l else none
   | _,_=>some l
  | _,_=>none) (some []))=some l→∀i∈is,∀pi,ps[i]? = some pi→BJ E ops M i j pi pj l:=by
  intro is
  induction is with
  | nil=>intro l _ i hi;cases hi
  |
   cons i0 is ih =>
   intro l h i hi pi OG
   rw[List.foldr_cons] at h
   revert h
   generalize ajX:is.foldr _ (some [])=acc
   intro h
   cases acc with
   | none=>cases h
   |
    some l0 =>
    have ih':=ih l0 ajX
    cases hp0:ps[i0]? with
    | none=>rw[hp0] at h;cases h
    |
     some p0 =>
     rw[hp0] at h
     simp only at h
     have step:(∀x∈l0,x∈l)∧BJ E ops M i0 j p0 pj l:=by
      unfold BJ
      split at h
      ·rename_i c1 c2
       try rw[c1,c2]
       split at h
       ·rename_i ha;cases h;exact⟨fun x hx=>hx,.inl ha⟩
       ·split at h
        ·rename_i a b ta tb
         split at h
         ·rename_i hu;cases h;exact⟨fun x hx=>List.mem_cons_of_mem _ hx,.inr ⟨a,b,ta,tb,hu,List.mem_cons_self⟩⟩
         ·cases h
        ·cases h
      ·rename_i c1 c2
       try rw[c1,c2]
       split at h
       ·rename_i ha;cases h;exact⟨fun x hx=>hx,.inl ha⟩
       ·split at h
        ·rename_i a b ta tb
         split at h
         ·rename_i hu;cases h;exact⟨fun x hx=>List.mem_cons_of_mem _ hx,.inr ⟨a,b,ta,tb,hu,List.mem_cons_self⟩⟩
         ·cases h
        ·cases h
      ·rename_i c1 c2
       try rw[c1,c2]
       split at h
       ·rename_i ha;cases h;exact⟨fun x hx=>hx,ha⟩
       ·cases h
      ·rename_i c1 c2
       try rw[c1,c2]
       split at h
       ·rename_i ha;cases h;exact⟨fun x hx=>hx,ha⟩
       ·cases h
      ·rename_i c1 c2
       try rw[c1,c2]
       split at h
       ·rename_i ha;cases h;exact⟨fun x hx=>hx,ha⟩
       ·cases h
      ·cases h
       refine⟨fun x hx=>hx,?_⟩
       first | trivial | (split<;>first | trivial | (simp_all;done)) | (simp_all;done)
     rcases List.mem_cons.1 hi with rfl | hi
     ·rw[hp0] at OG
      cases OG
      exact step.2
     ·exact(ih' i hi pi OG).mono step.1
 exact fun i hi pi OG=>key _ l h i (List.mem_range.2 hi) pi OG
structure Ub (P:Program) (E:xL) (n:Nat) (ops:List Oper) (i:Nat) (o:Oper) (p:kO) (pi:PI):Prop where
 Tw:mM P o.op=some p
 dst:pi.dst=o.dst
 op:pi.op=p
 guard:guardOf ops i o=some pi.g
 bound:∀d,o.dst=some d→d<n
structure Lj (E:xL) (ops:List Oper) (ps:List kO) (M:List Nat) (i:Nat) (o:Oper) (p:kO) (pi:PI):Prop where
 back:∀e∈o.after.toList,Region.binds .any e=true→e.on<i
 guard:∀j w,o.guard=some (j,w)→(M.getD i 0).testBit j=true
 Kt:∀t∈o.dst.toList++sH ops o,∀k ok,ops[k]? = some ok→ok.dst=some t→k=i∨ahead M i k=true
 mask:M.getD i 0=sL o M
 quiet:pi.quiet=(match eR E p with | .quiet=>true | _=>false)
 afP:∀k,k<i→∀pk,ps[k]? = some pk→BJ E ops M k i pk p pi.cf
theorem OA {P:Program} {E:xL} {n:Nat} {ops:List Oper} {ps:List kO} {M:List Nat} {draw:Bool} {i:Nat} {pi:PI} (h:O2 E ops ps M n draw i=some pi) {o:Oper} {p:kO} (ho:ops[i]? = some o) (hp:ps[i]? = some p)
  (Rm:mM P o.op=some p):Ub P E n ops i o p pi∧(draw=true→Lj E ops ps M i o p pi)∧(draw=false→pi.quiet=false∧pi.cf=[]):=by
 unfold O2 at h
 rw[ho,hp] at h
 simp only at h
 split at h
 case isFalse=>cases h
 rename_i hb
 have hbound:∀d,o.dst=some d→d<n:=by
  intro d hd
  rw[hd] at hb
  simpa[Zb] using hb
 split at h
 ·cases h
 ·rename_i g hg
  cases draw with
  |
   false =>
   simp only[Bool.false_eq_true,if_false] at h
   cases h
   exact⟨⟨Rm,rfl,rfl,hg,hbound⟩,(fun h=>by cases h),fun _=>⟨rfl,rfl⟩⟩
  |
   true =>
   simp only[if_true] at h
   split at h
   case isFalse=>cases h
   rename_i hc
   simp only[Bool.and_eq_true,beq_iff_eq] at hc
   obtain⟨⟨⟨c1,c2⟩,c3⟩,c4⟩:=hc
   cases Ma:conflicts E ops ps M i p with
   | none=>rw[Ma] at h;cases h
   |
    some cf =>
    rw[Ma] at h
    cases h
    refine⟨⟨Rm,rfl,rfl,hg,hbound⟩,fun _=>⟨fun e he Xx => ?_,fun j w hj => ?_,fun t ht k ok hk hkd => ?_,c4,rfl,Iy Ma⟩,(fun h=>by cases h)⟩
    ·have:=List.all_eq_true.1 c1 e he
     simpa[Xx] using this
    ·rw[hj] at c2
     exact c2
    ·have h1:=List.all_eq_true.1 c3 t ht
     have So:k<ops.length:=(List.getElem?_eq_some_iff.1 hk).1
     have h2:=List.all_eq_true.1 h1 k (List.mem_range.2 So)
     rw[hk] at h2
     simp only[Bool.or_eq_true,bne_iff_ne,ne_eq,beq_iff_eq] at h2
     rcases h2 with(h2 | h2) | h2
     ·exact absurd hkd h2
     ·exact .inl h2
     ·exact .inr h2
structure Y3 (P:Program) (E:xL) (n:Nat) (ops:List Oper) (draw:Bool) (pH:List PI) (ps:List kO) (M:List Nat):Prop where
 DT:ps.length=ops.length
 amL:pH.length=ops.length
 each:∀i o,ops[i]? = some o→∃p pi,ps[i]? = some p∧pH[i]? = some pi∧Ub P E n ops i o p pi∧(draw=true→Lj E ops ps M i o p pi)∧(draw=false→pi.quiet=false∧pi.cf=[])
theorem Gq {P:Program} {E:xL} {n:Nat} {ops:Array Oper} {draw:Bool} {pH:List PI} (h:tK P E n ops draw=some pH):∃ps M,Y3 P E n ops.toList draw pH ps M:=by
 unfold tK at h
 split at h
 ·rename_i ps hps
  simp only at h
  generalize (if draw=true then L5 ops.toList [] else [])=M at h
  obtain⟨h1,h2⟩:=Bu hps
  obtain⟨h3,h4⟩:=Bu h
  refine⟨ps,M,h1,by simpa using h3,fun i o ho => ?_⟩
  have aR:=(List.getElem?_eq_some_iff.1 ho).1
  obtain⟨p,hp,Rm⟩:=MF hps ho
  have hr:(List.range ops.size)[i]? = some i:=by rw[List.getElem?_range];simpa using aR
  obtain⟨pi,OG,hpp⟩:=MF h hr
  exact⟨p,pi,hp,OG,OA hpp ho hp Rm⟩
 ·cases h
theorem Jo {o:Oper} {M:List Nat} {i:Nat} (h:(sL o M).testBit i=true):∃e∈o.after.toList,Region.binds .any e=true∧(e.on=i∨(M.getD e.on 0).testBit i=true):=by
 unfold sL at h
 revert h
 generalize o.after.toList=es
 induction es with
 | nil=>intro h;simp at h
 |
  cons e es ih =>
  intro h
  rw[List.foldr_cons] at h
  split at h
  ·rename_i hb
   rw[Nat.testBit_or,Nat.testBit_or,Bool.or_eq_true,Bool.or_eq_true] at h
   rcases h with(h | h) | h
   ·obtain⟨e',h1,h2⟩:=ih h
    exact⟨e',List.mem_cons_of_mem _ h1,h2⟩
   ·refine⟨e,List.mem_cons_self,hb,.inl ?_⟩
    rw[Nat.testBit_two_pow] at h
    simpa using h
   ·exact⟨e,List.mem_cons_self,hb,.inr h⟩
  ·obtain⟨e',h1,h2⟩:=ih h
   exact⟨e',List.mem_cons_of_mem _ h1,h2⟩
theorem OQ {ops:List Oper} {M:List Nat} {S:Nat→Prop} (hb:∀i o,ops[i]? = some o→∀e∈o.after.toList,Region.binds .any e=true→e.on<i) (hm:∀i o,ops[i]? = some o→M.getD i 0=sL o M)
  (hS:∀i o,ops[i]? = some o→S i→∀e∈o.after.toList,Region.binds .any e=true→S e.on):∀j o,ops[j]? = some o→(∀e∈o.after.toList,Region.binds .any e=true→S e.on)→∀i,(M.getD j 0).testBit i=true→S i:=by
 intro j
 induction j using Nat.strongRecOn with
 |
  _ j ih =>
  intro o ho hj i hi
  rw[hm j o ho] at hi
  obtain⟨e,he,Xx,h1⟩:=Jo hi
  rcases h1 with rfl | h1
  ·exact hj e he Xx
  ·have aR:=hb j o ho e he Xx
   have QE:=(List.getElem?_eq_some_iff.1 ho).1
   have ZD:e.on<ops.length:=by omega
   exact ih e.on aR ops[e.on] (List.getElem?_eq_getElem ZD) (hS e.on _ (List.getElem?_eq_getElem ZD) (hj e he Xx)) i h1
end Go.PM
namespace Go.PM
def sN (P:Program) (L0:Nat) (call:fC):Prop :=
 ∀f args lo H v H',call f args lo H=some (v,H')→∀m w fN,Rel m L0 H w→L0≤lo→L0≤H.length→RL m args fN→(∀b,H.length≤b→b<H'.length→m b=none) →
  HM P f∧Calls P f fN.toArray w fun e w'=>∃m' rv,e = .returned rv∧RV m' v rv∧Rel m' L0 H' w'∧Trans lo m H w m' H' w'
section
variable {P:Program} {m:cK} {L0:Nat} {H:aF} {w:World}
theorem pY {call:fC} {lo:Nat} {i:PI} {ρ:Env} {v:Value} {H':aF} (h:uC call lo i ρ H=some (v,H')) :
  (uX i.g ρ=some false∧v=undef∧H'=H) ∨
  (uX i.g ρ=some true∧i.cf.all (wG ρ)=true∧(pop lo i.op ρ H=some (.val v H') ∨
   ∃f args,pop lo i.op ρ H=some (.call f args)∧call f args (if i.quiet then H.length else lo) H=some (v,H'))):=by
 unfold uC at h
 split at h
 ·cases h
 ·rename_i hw;cases h;exact .inl ⟨hw,rfl,rfl⟩
 ·rename_i hw
  split at h
  ·rename_i Ma
   refine .inr ⟨hw,Ma,?_⟩
   split at h
   ·rename_i hp;cases h;exact .inl hp
   ·rename_i f args hp;exact .inr ⟨f,args,hp,h⟩
   ·cases h
  ·cases h
theorem S0 {t:Array Value} {d:Nat} {b:Bool} (h:t.getD d undef = .bool b):t[d]? = some (.bool b):=by
 rcases Nat.lt_or_ge d t.size with hd | hd
 ·simp[hd] at h ⊢
  exact h
 ·simp[Array.getElem?_eq_none hd,undef] at h
theorem CA {ops:Array Oper} {i:Nat} {o:Oper} {g:Option (Nat×Bool)} {ρ:Env} {a:Act} {t:Bool} (hg:guardOf ops.toList i o=some g) (hw:uX g ρ=some t)
  (hr:∀d∈sH ops.toList o,RV m (ρ d) (a.tmps.getD d undef)):Region.wanted o (yielded ops a.tmps)=t:=by
 unfold guardOf at hg
 unfold Region.wanted
 cases Zu:o.guard with
 |
  none =>
  rw[Zu] at hg
  cases hg
  cases hw
  rfl
 |
  some jw =>
  obtain⟨j,want⟩:=jw
  rw[Zu] at hg
  simp only at hg
  split at hg
  ·split at hg
   ·rename_i d hd
    cases hg
    have DU:d∈sH ops.toList o:=by
     unfold sH
     rw[Zu]
     simp only[List.mem_append]
     right
     rw[hd]
     simp
    have Qy:=hr d DU
    simp only[uX] at hw
    split at hw
    ·rename_i b hb
     cases hw
     rw[hb] at Qy
     generalize hx:a.tmps.getD d undef=x at Qy
     cases Qy
     have hy:yielded ops a.tmps j=some b:=by
      unfold yielded
      have YK:(ops[j]?).bind (·.dst)=some d:=by simpa using hd
      rw[YK,Option.bind_some,S0 hx]
     simp only[hy]
     cases b<;>cases want<;>rfl
    ·rename_i vs hb
     cases hw
     rw[hb] at Qy
     generalize hx:a.tmps.getD d undef=x at Qy
     obtain⟨ws,rfl⟩:∃ws,x = .tuple ws:=by cases Qy;exact⟨_,rfl⟩
     have YK:(ops[j]?).bind (·.dst)=some d:=by simpa using hd
     have hy:yielded ops a.tmps j=none:=by
      unfold yielded
      rw[YK,Option.bind_some]
      rcases Nat.lt_or_ge d a.tmps.size with aR | aR
      ·have:a.tmps[d]? = some (.tuple ws):=by rw[←hx];simp[aR]
       rw[this]
      ·rw[Array.getElem?_eq_none aR]
     simp only[hy]
     rfl
    ·cases hw
   ·cases hg
  ·cases hg
theorem Vp {E:xL} {p:kO} {lo As:Nat} {ρ:Env} (h:eR E p = .quiet):pop lo p ρ H=pop As p ρ H:=by
 cases p<;>first | rfl | (simp[eR] at h;done)
theorem B3 {ops:List Oper} {o:Oper} {t:Nat} (h:Operand.tmp t∈o.op.operands):t∈sH ops o:=by
 unfold sH tmpsOf
 rw[List.mem_append]
 left
 rw[List.mem_filterMap]
 exact⟨.tmp t,by simpa using h,rfl⟩
theorem HA {op:Op} {p:kO} (h:mM P op=some p):∀x∈op.operands,KP x=true:=by
 intro x hx
 unfold mM at h
 split at h
 ·rename_i iN
  obtain⟨i,hi,rfl⟩:=Array.getElem_of_mem hx
  exact Array.all_eq_true.1 iN i hi
 ·cases h
theorem Lb {E:xL} {n lo k:Nat} {ops:Array Oper} {o:Oper} {p:kO} {pi:PI} {call:fC} {ρ:Env} {v:Value} {H':aF} {a:Act} {K:Act→World→Prop} {Q:Exit→Act→World→Prop} (ho:ops[k]? = some o) (nW:Ub P E n ops.toList k o p pi)
  (hq:pi.quiet=true→eR E p = .quiet) (hv:uC call lo pi ρ H=some (v,H')) (hr:∀t∈sH ops.toList o,RV m (ρ t) (a.tmps.getD t undef)) (hR:Rel m L0 H w) (dP:L0≤lo) (hlen:L0≤H.length)
  (hf:∀b,H.length≤b→b<H'.length→m b=none) (kR:sN P L0 call)
  (hK:∀m' rv w',RV m' v rv→Rel m' L0 H' w'→Trans (if pi.quiet then H.length else lo) m H w m' H' w'→K (a.put o.dst rv) w'):wpOp P ops Q k K a w:=by
 have hro:∀x∈o.op.operands,RV m (ev ρ x) (a.eval x):=fun x hx=>P5 (HA nW.Tw x hx) fun t ht=>hr t (B3 (ht▸hx))
 unfold wpOp
 rw[ho]
 simp only
 rcases pY hv with⟨hw,rfl,rfl⟩ | ⟨hw,_,hp | ⟨f,args,hp,hc⟩⟩
 ·rw[CA nW.guard hw hr]
  simp only[Bool.false_eq_true,if_false]
  exact hK m undef w (RV.undef m) hR (Trans.refl _ m _ w)
 ·rw[CA nW.guard hw hr]
  simp only[if_true]
  left
  rw[nW.op] at hp
  have hs:bT P (execOp a.eval o) L0 (if pi.quiet then H.length else lo) m H w v H':=by
   split
   ·rename_i hqq
    rw[Vp (As:=H.length) (hq hqq)] at hp
    exact Ry nW.Tw hp hro hR hlen hf
   ·exact Ry nW.Tw hp hro hR dP hf
  obtain⟨rv,w',m',kF,h1,h2,h3⟩:=hs
  unfold Oper.wp
  rcases kF with kF | ⟨kF,rfl⟩
  ·rw[kF]
   exact hK m' rv w' h1 h2 h3
  ·rw[kF]
   exact hK m' undef w' h1 h2 h3
 ·rw[CA nW.guard hw hr]
  simp only[if_true]
  left
  rw[nW.op] at hp
  have agW:L0≤(if pi.quiet then H.length else lo):=by split<;>assumption
  obtain⟨fN,OC,aeY⟩:=SQ nW.Tw hp hro
  have kF:=aeY (kR f args _ H v H' hc m w fN hR agW hlen OC hf).1
  unfold Oper.wp
  rw[kF w]
  show Calls P f fN.toArray w _
  refine(kR f args _ H v H' hc m w fN hR agW hlen OC hf).2.mono ?_
  rintro e w' ⟨m',rv,rfl,h1,h2,h3⟩
  exact hK m' rv w' h1 h2 h3
end
end Go.PM
namespace Go.PM
theorem DJ {call:fC} {lo:Nat}:∀ {pH:List PI} {ρ aP:Env} {H H':aF},fT call lo pH ρ H=some (aP,H') →
  ∃st:Nat→Env×aF,st 0=(ρ,H)∧st pH.length=(aP,H')∧∀i pi,pH[i]? = some pi→tN call lo pi (st i).1 (st i).2=some (st (i+1))
 |
  [],ρ,aP,H,H',h=>by
  cases h
  exact⟨fun _=>(ρ,H),rfl,rfl,fun i pi hi=>by simp at hi⟩
 |
  x::pH,ρ,aP,H,H',h=>by
  rw[fT] at h
  split at h
  ·rename_i yA H1 h1
   obtain⟨st,h2,h3,h4⟩:=DJ h
   refine⟨fun i=>match i with | 0=>(ρ,H) | i+1=>st i,rfl,h3,fun i pi hi => ?_⟩
   cases i with
   |
    zero =>
    simp at hi
    subst hi
    show tN call lo x ρ H=some (st 0)
    rw[h1,h2]
   | succ i=>exact h4 i pi (by simpa using hi)
  ·cases h
theorem gI {H1 H2:aF} {b:Nat} (h:H2[b]? = H1[b]?):Live H2 b↔Live H1 b:=by
 unfold Live
 rw[h]
theorem Rel.restrict {m:cK} {L0:Nat} {H1 H2:aF} {w:World} (h:Rel m L0 H2 w) (hs:∀b,b<H1.length→H2[b]? = H1[b]?):Rel m L0 H1 w:=by
 refine⟨h.valid,fun b l cs e p hm hb=>h.row b l cs e p hm ?_,fun b1 b2 l1 l2 hb h1 h2 CL Fs=>h.inj b1 b2 l1 l2 hb h1 h2 ((gI (hs b1 CL.lt)).2 CL) ((gI (hs b2 Fs.lt)).2 Fs),fun x hx=>⟨(h.Ba x hx).1,fun b l hb hm hl=>(h.Ba x hx).2 b l hb hm ((gI (hs b hl.lt)).2 hl)⟩⟩
 rw[hs b (List.getElem?_eq_some_iff.1 hb).1]
 exact hb
theorem Rel.grow {m:cK} {L0:Nat} {H1 H2:aF} {w:World} (h:Rel m L0 H1 w) (hs:∀b,b<H1.length→H2[b]? = H1[b]?) (hd:∀b,H1.length≤b→b<H2.length→m b=none):Rel m L0 H2 w:=by
 have lt:∀b l,m b=some l→b<H2.length→b<H1.length:=fun b l hm hb=>by
  rcases Nat.lt_or_ge b H1.length with h | h
  ·exact h
  ·rw[hd b h hb] at hm;cases hm
 refine⟨h.valid,fun b l cs e p hm hb=>h.row b l cs e p hm ?_,fun b1 b2 l1 l2 hb h1 h2 CL Fs=>h.inj b1 b2 l1 l2 hb h1 h2 ((gI (hs b1 (lt b1 l1 h1 CL.lt))).1 CL) ((gI (hs b2 (lt b2 l2 h2 Fs.lt))).1 Fs),fun x hx=>⟨(h.Ba x hx).1,fun b l hb hm hl=>(h.Ba x hx).2 b l hb hm ((gI (hs b (lt b l hm hl.lt))).1 hl)⟩⟩
 rw[←hs b (lt b l hm (List.getElem?_eq_some_iff.1 hb).1)]
 exact hb
structure Text (P:Program) (E:xL) (n:Nat) (ops:Array Oper) (pH:List PI) (ps:List kO) (M:List Nat) (call:fC) (lo:Nat) (st:Nat→Env×aF):Prop where
 ok:Y3 P E n ops.toList true pH ps M
 ext:nX call
 step:∀i pi,pH[i]? = some pi→tN call lo pi (st i).1 (st i).2=some (st (i+1))
section
variable {P:Program} {E:xL} {n:Nat} {ops:Array Oper} {pH:List PI} {ps:List kO} {M:List Nat} {call:fC} {lo:Nat} {st:Nat→Env×aF}
theorem Text.at (T:Text P E n ops pH ps M call lo st) {i:Nat} (hi:i<ops.size):∃o p pi,ops[i]? = some o∧ps[i]? = some p∧pH[i]? = some pi∧Ub P E n ops.toList i o p pi∧Lj E ops.toList ps M i o p pi ∧
  ∃v,uC call lo pi (st i).1 (st i).2=some (v,(st (i+1)).2)∧(st (i+1)).1=put (st i).1 o.dst v:=by
 have ho:ops.toList[i]? = some ops[i]:=by simp[hi]
 obtain⟨p,pi,h1,h2,h3,h4,_⟩:=T.ok.each i _ ho
 obtain⟨v,h5,h6⟩:=sO (T.step i pi h2)
 exact⟨ops[i],p,pi,by simp[hi],h1,h2,h3,h4 rfl,v,h5,by rw[h6,h3.dst]⟩
theorem Text.ahJ (T:Text P E n ops pH ps M call lo st) {i:Nat} (hi:i<ops.size):(st i).2.length≤(st (i+1)).2.length:=by
 obtain⟨o,p,pi,_,_,_,_,_,v,hv,_⟩:=T.at hi
 exact(HN T.ext hv).len
theorem Text.len (T:Text P E n ops pH ps M call lo st) {i:Nat}:∀ {j:Nat},i≤j→j≤ops.size→(st i).2.length≤(st j).2.length:=by
 intro j IW
 induction j with
 | zero =>
    intro _;have:i=0:=by omega
    subst this;exact Nat.le_refl _
 |
  succ j ih =>
  intro hj
  rcases Nat.lt_or_ge i (j+1) with h | h
  ·exact Nat.le_trans (ih (by omega) (by omega)) (T.ahJ (by omega))
  ·have:i=j+1:=by omega
   subst this;exact Nat.le_refl _
theorem Text.afC (T:Text P E n ops pH ps M call lo st) {i:Nat} {p:kO} (hi:i<ops.size) (hp:ps[i]? = some p) (hw:eR E p ≠ .write):∀b,b<(st i).2.length→(st (i+1)).2[b]? = (st i).2[b]? := by
 intro b hb
 obtain⟨o,p',pi,_,Ax,_,nW,SE,v,hv,_⟩:=T.at hi
 rw[hp] at Ax
 cases Ax
 rcases pY hv with⟨_,_,h⟩ | ⟨_,_,h | ⟨f,args,h1,h2⟩⟩
 ·rw[h]
 ·rw[nW.op] at h
  by_cases hq:eR E p = .quiet
  ·rw[Vp (As:=(st i).2.length) hq] at h
   exact(Qd h).low b hb hb
  ·
   have:(st (i+1)).2=(st i).2:=by
    cases p<;>first
     | (exact absurd rfl hw)
     | (exact absurd rfl hq)
     | (rw[tR rfl] at h;exact(AU h).2)
     | skip
    case load agg size q =>
     simp only[pop] at h
     cases hl:kU agg size (ev (st i).1 q) (st i).2 with
     | none=>rw[hl] at h;cases h
     | some u=>rw[hl] at h;injection h with h;injection h with _ h;exact h.symm
    case b2s x =>
     simp only[pop] at h
     split at h
     ·injection h with h;injection h with _ h;exact h.symm
     ·split at h
      ·rename_i cs _
       cases hb:pO cs with
       | none=>rw[hb] at h;cases h
       | some bs=>rw[hb] at h;injection h with h;injection h with _ h;exact h.symm
      ·cases h
     ·cases h
    case sub size x l hh mx =>
     simp only[pop] at h
     cases mx with
     | some mx=>exact absurd rfl hq
     |
      none =>
      cases hs:Ah size (ev (st i).1 x) (l.map (ev (st i).1)) (hh.map (ev (st i).1)) ((none:Option Operand).map (ev (st i).1)) (st i).2 with
      | none=>rw[hs] at h;cases h
      |
       some q =>
       obtain⟨u,H1⟩:=q
       rw[hs] at h
       injection h with h;injection h with _ h
       subst h
       unfold Ah at hs
       simp only[Option.map_none,Option.isSome_none,Bool.false_eq_true,false_and,if_false] at hs
       repeat' (split at hs)
       all_goals first
        | (cases hs;done)
        | (injection hs with hs;injection hs with _ hs;exact hs.symm)
    case call f args=>cases h
   rw[this]
 ·rw[nW.op] at h1
  have hq:pi.quiet=true:=by
   rw[SE.quiet]
   rcases oH h1 with⟨g,as,rfl⟩ | ⟨g,as,rfl⟩
   ·simp only[eR] at hw ⊢
    split at hw
    ·exact absurd rfl hw
    ·rename_i h;rw[if_neg h]
   ·exact absurd rfl hw
  rw[hq] at h2
  exact(T.ext _ _ _ _ _ _ h2).low b hb hb
end
end Go.PM
namespace Go.PM
theorem BG {H H':aF} {lo b o:Nat} {new:List Value} (h:H.write lo b o new=some H') {b':Nat} (hb:b'≠b):H'[b']? = H[b']? := by
 obtain⟨cs,e,p,h1,h2,h3,h4,rfl⟩:=yH h
 exact List.getElem?_set_ne (Ne.symm hb)
theorem F1 {H H':aF} {lo size bytes add:Nat} {x v:Value} {new:List Value} (h:dF lo size bytes x add new H=some (v,H')) {b':Nat} (hb:gP x≠some b') (aR:b'<H.length):H'[b']? = H[b']? := by
 unfold dF at h
 split at h
 case isFalse=>cases h
 split at h
 ·split at h
  ·split at h
   ·cases h;rfl
   ·split at h
    ·cases h;exact List.getElem?_append_left aR
    ·cases h
  ·cases h
 ·rename_i b o n c
  have cI:b'≠b:=fun e=>hb (by rw[e];rfl)
  split at h
  ·split at h
   ·split at h
    ·split at h
     ·cases h;rfl
     ·cases hw:aF.write H lo b (o+n*size) new with
      | none=>rw[hw] at h;cases h
      | some H1=>rw[hw] at h;cases h;exact BG hw cI
    ·split at h
     ·split at h
      ·split at h
       ·cases h
        rw[List.getElem?_append_left (by simpa using aR)]
        exact List.getElem?_set_ne (Ne.symm cI)
       ·cases h
      ·cases h;exact List.getElem?_append_left aR
     ·cases h
   ·cases h
  ·cases h
 ·cases h
theorem X2 {E:xL} {lo:Nat} {p:kO} {ρ:Env} {H H':aF} {v:Value} {x:Operand} (h:pop lo p ρ H=some (.val v H')) (hw:eR E p = .write) (ht:Cb p=some x) {b':Nat} (hb:gP (ev ρ x)≠some b') (aR:b'<H.length):H'[b']? = H[b']? := by
 cases p<;>first | (cases ht;done) | (cases hw;done) | skip
 case sub size y l hh mx=>cases mx<;>cases hw
 case store size q y =>
  cases ht
  simp only[pop] at h
  split at h
  ·rename_i b o he
   rw[he] at hb
   have cI:b'≠b:=fun e=>hb (by rw[e];rfl)
   split at h
   ·cases hw:H.write lo b o (aK (ev ρ y)) with
    | none=>rw[hw] at h;cases h
    | some H1=>rw[hw] at h;cases h;exact BG hw cI
   ·cases h
  ·cases h
 case app size bytes y z =>
  cases ht
  simp only[pop] at h
  split at h
  ·rename_i n _
   split at h
   ·rename_i new _
    cases ha:dF lo size bytes (ev ρ x) n new H with
    | none=>rw[ha] at h;cases h
    |
     some q =>
     obtain⟨u,H1⟩:=q
     rw[ha] at h;cases h;exact F1 ha hb aR
   ·cases h
  ·cases h
 case appz z bytes y n =>
  cases ht
  simp only[pop] at h
  split at h
  ·rename_i k _
   split at h
   ·cases ha:dF lo z.length bytes (ev ρ x) k.toNat (bZ k.toNat z) H with
    | none=>rw[ha] at h;cases h
    |
     some q =>
     obtain⟨u,H1⟩:=q
     rw[ha] at h;cases h;exact F1 ha hb aR
   ·cases h
  ·cases h
 case copy size y z =>
  cases ht
  simp only[pop] at h
  split at h
  ·cases h;rfl
  ·rename_i b o d _ s he _
   rw[he] at hb
   have cI:b'≠b:=fun e=>hb (by rw[e];rfl)
   split at h
   ·rename_i new _
    cases hw:H.write lo b o new with
    | none=>rw[hw] at h;cases h
    | some H1=>rw[hw] at h;cases h;exact BG hw cI
   ·cases h
  ·cases h
 case clear z y =>
  cases ht
  simp only[pop] at h
  split at h
  ·cases h;rfl
  ·rename_i b o n _ he
   rw[he] at hb
   have cI:b'≠b:=fun e=>hb (by rw[e];rfl)
   split at h
   ·cases h;rfl
   ·cases hw:H.write lo b o (bZ n z) with
    | none=>rw[hw] at h;cases h
    | some H1=>rw[hw] at h;cases h;exact BG hw cI
  ·cases h
theorem Lh {H:aF} {b o n:Nat} {cs:List Value} (h:H.read b o n=some cs):b<H.length:=by
 unfold aF.read at h
 split at h
 ·rename_i hb;exact(List.getElem?_eq_some_iff.1 hb).1
 ·cases h
theorem CG {H H2:aF} {b o n:Nat} (h:H2[b]? = H[b]?):H2.read b o n=H.read b o n:=by
 unfold aF.read
 rw[h]
theorem ON {agg:Bool} {size:Nat} {x v:Value} {H H2:aF} (h:kU agg size x H=some v) (hb:∀b,gP x=some b→b<H.length→H2[b]? = H[b]?):kU agg size x H2=some v:=by
 unfold kU at h ⊢
 split at h
 ·rename_i b o
  have aR:b<H.length:=by
   split at h
   ·cases hr:H.read b o size with
    | none=>rw[hr] at h;cases h
    | some cs=>exact Lh hr
   ·cases hr:H.read b o 1 with
    | none=>rw[hr] at h;cases h
    | some cs=>exact Lh hr
  have e:=hb b rfl aR
  simp only[CG e]
  exact h
 ·cases h
theorem Oe {E:xL} {lo:Nat} {p:kO} {ρ:Env} {H H' H2:aF} {v:Value} (h:pop lo p ρ H=some (.val v H')) (hc:eR E p = .look) (hb:∀x,Cb p=some x→∀b,gP (ev ρ x)=some b→b<H.length→H2[b]? = H[b]?) :
  H'=H∧pop lo p ρ H2=some (.val v H2):=by
 cases p<;>first | (cases hc;done) | skip
 case call f args=>simp only[eR] at hc;split at hc<;>cases hc
 case load agg size q =>
  simp only[pop] at h ⊢
  cases hl:kU agg size (ev ρ q) H with
  | none=>rw[hl] at h;cases h
  |
   some u =>
   rw[hl] at h
   cases h
   refine⟨rfl,?_⟩
   rw[ON hl (hb q rfl)]
   rfl
 case b2s x =>
  simp only[pop] at h ⊢
  split at h
  ·cases h;exact⟨rfl,rfl⟩
  ·rename_i b o n _ he
   split at h
   ·rename_i cs hr
    cases Za:pO cs with
    | none=>rw[Za] at h;cases h
    |
     some bs =>
     rw[Za] at h
     cases h
     refine⟨rfl,?_⟩
     have e:=hb x rfl b (by rw[he];rfl) (Lh hr)
     rw[CG e,hr]
     simp only[Za]
     rfl
   ·cases h
  ·cases h
 case sub size x l hh mx =>
  cases mx with
  | some mx=>cases hc
  |
   none =>
   simp only[pop] at h ⊢
   cases hs:Ah size (ev ρ x) (l.map (ev ρ)) (hh.map (ev ρ)) ((none:Option Operand).map (ev ρ)) H with
   | none=>rw[hs] at h;cases h
   |
    some q =>
    obtain⟨u,H1⟩:=q
    rw[hs] at h
    cases h
    have xT:=hb x rfl
    generalize ev ρ x=xv at hs xT
    have key:H1=H∧Ah size xv (l.map (ev ρ)) (hh.map (ev ρ)) ((none:Option Operand).map (ev ρ)) H2=some (u,H2):=by
     unfold Ah at hs ⊢
     simp only[Option.map_none,Option.isSome_none,Bool.false_eq_true,false_and,if_false] at hs ⊢
     split at hs
     ·repeat' (split at hs)
      all_goals first | (cases hs;done) | skip
      cases hs
      simp_all
     ·rename_i b o n c
      split at hs
      ·rename_i cs e p EU
       have e1:=xT b rfl (List.getElem?_eq_some_iff.1 EU).1
       rw[e1,EU]
       simp only
       repeat' (split at hs)
       all_goals first | (cases hs;done) | skip
       cases hs
       simp_all
      ·cases hs
     ·cases hs
    rw[key.2]
    exact⟨key.1,rfl⟩
section
variable {P:Program} {E:xL} {n:Nat} {ops:Array Oper} {pH:List PI} {ps:List kO} {M:List Nat} {call:fC} {lo:Nat} {st:Nat→Env×aF}
theorem Text.VH (T:Text P E n ops pH ps M call lo st) {i:Nat}:∀ {j:Nat},i≤j→j≤ops.size→Ext lo (st i).2 (st j).2:=by
 intro j IW
 induction j with
 | zero =>
    intro _;have:i=0:=by omega
    subst this;exact Ext.refl _ _
 |
  succ j ih =>
  intro hj
  rcases Nat.lt_or_ge i (j+1) with h | h
  ·obtain⟨o,p,pi,_,_,_,_,_,v,hv,_⟩:=T.at (i:=j) (by omega)
   exact(ih (by omega) (by omega)).trans (HN T.ext hv)
  ·have:i=j+1:=by omega
   subst this;exact Ext.refl _ _
theorem Text.Xf (T:Text P E n ops pH ps M call lo st) {i:Nat}:∀ {j:Nat},i≤j→j≤ops.size→∀b,b<(st i).2.length →
  (∀k,i≤k→k<j→∀p pi,ps[k]? = some p→pH[k]? = some pi→eR E p = .write→uX pi.g (st k).1=some true→∃x,Cb p=some x∧gP (ev (st k).1 x)≠some b) →
  (st j).2[b]? = (st i).2[b]? := by
 intro j IW
 induction j with
 | zero =>
      intro _ b _ _;have:i=0:=by omega
      subst this;rfl
 |
  succ j ih =>
  intro hj b hb hk
  rcases Nat.lt_or_ge i (j+1) with h | h
  ·have aR:b<(st j).2.length:=Nat.lt_of_lt_of_le hb (T.len (by omega) (by omega))
   have h1:(st (j+1)).2[b]? = (st j).2[b]? := by
    obtain⟨o,p,pi,_,hp,OG,nW,_,v,hv,_⟩:=T.at (i:=j) (by omega)
    by_cases hw:eR E p = .write
    ·rcases pY hv with⟨_,_,h⟩ | ⟨hwt,_,h | ⟨f,args,h1,h2⟩⟩
     ·rw[h]
     ·rw[nW.op] at h
      obtain⟨x,hx,cI⟩:=hk j (by omega) (by omega) p pi hp OG hw hwt
      exact X2 h hw hx cI aR
     ·rw[nW.op] at h1
      obtain⟨x,hx,cI⟩:=hk j (by omega) (by omega) p pi hp OG hw hwt
      rcases oH h1 with⟨g,as,rfl⟩ | ⟨g,as,rfl⟩<;>cases hx
    ·exact T.afC (by omega) hp hw b aR
   rw[h1]
   exact ih (by omega) (by omega) b hb fun k hk1 U2=>hk k hk1 (by omega)
  ·have:i=j+1:=by omega
   subst this;rfl
theorem Text.same (T:Text P E n ops pH ps M call lo st) {i j:Nat} (IW:i≤j) (hj:j≤ops.size) (hk:∀k,i≤k→k<j→∀p,ps[k]? = some p→eR E p ≠ .write):∀b,b<(st i).2.length→(st j).2[b]? = (st i).2[b]? :=
 fun b hb=>T.Xf IW hj b hb fun k h1 h2 p _ hp _ hw _=>absurd hw (hk k h1 h2 p hp)
theorem Text.Lz (T:Text P E n ops pH ps M call lo st) {i t:Nat}:∀ {j:Nat},i≤j→j≤ops.size→(∀k o,i≤k→k<j→ops[k]? = some o→o.dst≠some t)→(st j).1 t=(st i).1 t:=by
 intro j IW
 induction j with
 | zero =>
      intro _ _;have:i=0:=by omega
      subst this;rfl
 |
  succ j ih =>
  intro hj hk
  rcases Nat.lt_or_ge i (j+1) with h | h
  ·obtain⟨o,p,pi,ho,hp,OG,nW,_,v,hv,he⟩:=T.at (i:=j) (by omega)
   rw[he]
   have cI:=hk j o (by omega) (by omega) ho
   have h1:put (st j).1 o.dst v t=(st j).1 t:=by
    cases hd:o.dst with
    | none=>rfl
    |
     some d =>
     rw[hd] at cI
     show (if t=d then v else _)=_
     rw[if_neg (fun e=>cI (by rw[e]))]
   rw[h1]
   exact ih (by omega) (by omega) fun k o hk1 U2=>hk k o hk1 (by omega)
  ·have:i=j+1:=by omega
   subst this;rfl
end
end Go.PM
namespace Go.PM
theorem sU {M:List Nat} {i j:Nat} (h:i<j):ahead M i j=(M.getD j 0).testBit i:=by
 unfold ahead
 have e1:Nat.max i j=j:=Nat.max_eq_right (by omega)
 have e2:Nat.min i j=i:=Nat.min_eq_left (by omega)
 rw[e1,e2]
theorem Wr {M:List Nat} {i j:Nat} (h:j<i):ahead M i j=(M.getD i 0).testBit j:=by
 unfold ahead
 have e1:Nat.max i j=i:=Nat.max_eq_left (by omega)
 have e2:Nat.min i j=j:=Nat.min_eq_right (by omega)
 rw[e1,e2]
theorem Mx {a:Act} {d t:Nat} {v:Value} (hd:d<a.tmps.size):(a.put (some d) v).tmps.getD t undef=if t=d then v else a.tmps.getD t undef:=by
 show (a.tmps.setIfInBounds d v).getD t undef=_
 rcases Nat.lt_or_ge t a.tmps.size with h | h
 ·by_cases e:t=d
  ·subst e;simp[h]
  ·simp[h,e,Ne.symm e]
 ·have:t≠d:=by omega
  simp[h,this]
theorem Dv (a:Act) (d:Option Nat) (v:Value):(a.put d v).tmps.size=a.tmps.size:=by
 cases d<;>simp[Act.put]
theorem DE (a:Act) (d:Option Nat) (v:Value):(a.put d v).defers=a.defers:=by
 cases d<;>rfl
section
variable {P:Program} {E:xL} {n:Nat} {ops:Array Oper} {pH:List PI} {ps:List kO} {M:List Nat} {call:fC} {lo L0:Nat} {st:Nat→Env×aF}
structure pB (E:xL) (n:Nat) (ops:Array Oper) (ps:List kO) (lo L0:Nat) (st:Nat→Env×aF) (m0:cK) (w0:World) (ds:List Deferred) (S:Nat→Prop) (m:cK) (c:Nat) (a:Act) (w:World):Prop where
 D6:a.tmps.size=n
 defs:a.defers=ds
 back:∀i o,ops.toList[i]? = some o→S i→∀e∈o.after.toList,Region.binds .any e=true→S e.on
 tm:∀t j,j≤ops.size→(∀i o,ops.toList[i]? = some o→o.dst=some t→(S i↔i<j))→RV m ((st j).1 t) (a.tmps.getD t undef)
 DA:c≤ops.size
 before:∀i p,i<c→ps[i]? = some p→eR E p = .write→S i
 Zt:c<ops.size→¬S c∧∃p,ps[c]? = some p∧eR E p = .write
 rel:Rel m L0 (st c).2 w
 tr:Trans lo m0 (st 0).2 w0 m (st c).2 w
 TJ:∀b l,m b=some l→m0 b≠none∨∃i,S i∧i<ops.size∧(st i).2.length≤b∧b<(st (i+1)).2.length
theorem Text.Zs (T:Text P E n ops pH ps M call lo st) {S:Nat→Prop} (hS:∀i o,ops.toList[i]? = some o→S i→∀e∈o.after.toList,Region.binds .any e=true→S e.on) {k:Nat} {o:Oper} (ho:ops.toList[k]? = some o)
  (hk:∀e∈o.after.toList,Region.binds .any e=true→S e.on) {i:Nat} (hi:(M.getD k 0).testBit i=true):S i :=
 OQ (fun i o hio=>by
   obtain⟨p,pi,_,_,_,hd,_⟩:=T.ok.each i o hio
   exact(hd rfl).back) (fun i o hio=>by
   obtain⟨p,pi,_,_,_,hd,_⟩:=T.ok.each i o hio
   exact(hd rfl).mask) hS k o ho hk i hi
theorem Text.Q2 (T:Text P E n ops pH ps M call lo st) {i:Nat} {p:kO} (hi:i<ops.size) (hp:ps[i]? = some p) (h:eR E p = .pure∨eR E p = .look):(st (i+1)).2=(st i).2:=by
 obtain⟨o,p',pi,_,Ax,_,nW,SE,v,hv,_⟩:=T.at hi
 rw[hp] at Ax
 cases Ax
 rcases pY hv with⟨_,_,h'⟩ | ⟨_,_,h' | ⟨f,args,h1,h2⟩⟩
 ·exact h'
 ·rw[nW.op] at h'
  rcases h with h | h
  ·have:pP p=true:=by
    cases p<;>first | rfl | (cases h;done) | skip
    case sub s x l hh mx=>cases mx<;>cases h
    case call f as=>simp only[eR] at h;split at h<;>cases h
   rw[tR this] at h'
   exact(AU h').2
  ·exact(Oe h' h (fun _ _ _ _ _=>rfl)).1
 ·exfalso
  rw[nW.op] at h1
  rcases oH h1 with⟨g,as,rfl⟩ | ⟨g,as,rfl⟩
  ·simp only[eR] at h
   split at h<;>rcases h with h | h<;>cases h
  ·rcases h with h | h<;>cases h
theorem Tg {op:Op} {p:kO} {x:Operand} (h:mM P op=some p) (ht:Cb p=some x):x∈op.operands:=by
 unfold mM at h
 split at h
 case isFalse=>cases h
 cases op with
 |
  load t q =>
  dsimp only at h
  cases hi:jP P t with
  | none=>rw[hi] at h;cases h
  | some u=>rw[hi] at h;cases h;cases ht;simp[Op.operands]
 |
  store t q v =>
  dsimp only at h
  cases hi:P.info? t with
  | none=>rw[hi] at h;cases h
  | some u=>rw[hi] at h;cases h;cases ht;simp[Op.operands]
 |
  slice t y l hh mx =>
  dsimp only at h
  split at h
  ·split at h
   ·cases h;cases ht
   ·cases h
  ·rename_i e _
   cases hi:jP P e with
   | none=>rw[hi] at h;cases h
   | some u=>rw[hi] at h;cases h;cases ht;simp[Op.operands]
  ·cases h
 |
  convert s d y =>
  dsimp only at h
  repeat' (split at h)
  all_goals first
   | (cases h;done)
   | (cases h;cases ht;done)
   | (cases h;cases ht;simp[Op.operands])
 |
  call c =>
  obtain⟨callee,args,ts⟩:=c
  cases callee with
  |
   builtin b =>
   simp only[kX] at h
   repeat' (split at h)
   all_goals first
    | (cases h;done)
    | (cases h;cases ht;done)
    | skip
   all_goals
    cases h
    cases ht
    have hm:x∈args.toList:=by simp_all
    simpa[Op.operands,Call.operands] using hm
  |
   value f =>
   cases f with
   | tmp g'=>cases h;cases ht
   | func g'=>cases h;cases ht
   | _=>cases h
  | invoke r s=>cases h
 |
  _ =>
  exfalso
  dsimp only at h
  try unfold yN at h
  repeat' (split at h)
  all_goals first
   | contradiction
   | (cases h;done)
   | (cases h;cases ht;done)
   | exact map_none h (by intro y h;cases h;cases ht)
end
end Go.PM
namespace Go.PM
theorem CT (p:Nat→Prop):∀(d c N:Nat),N-c=d→c≤N→∃c',c≤c'∧c'≤N∧(∀i,c≤i→i<c'→¬p i)∧(c'<N→p c')
 | 0,c,N,hd,hc=>⟨c,Nat.le_refl _,hc,fun i h1 h2=>by omega,fun h=>by omega⟩
 |
  d+1,c,N,hd,hc=>by
  by_cases hp:p c
  ·exact⟨c,Nat.le_refl _,hc,fun i h1 h2=>by omega,fun _=>hp⟩
  ·obtain⟨c',h1,h2,h3,h4⟩:=CT p d (c+1) N (by omega) (by omega)
   refine⟨c',by omega,h2,fun i hi1 En => ?_,h4⟩
   rcases Nat.lt_or_ge c i with h | h
   ·exact h3 i h En
   ·have:i=c:=by omega
    subst this;exact hp
theorem WM {m:cK} {v r:Value} {b:Nat} (h:RV m v r) (hb:gP v=some b):∃l,m b=some l:=by
 cases h<;>first | (cases hb;done) | (cases hb;exact⟨_,by assumption⟩)
section
variable {P:Program} {E:xL} {n:Nat} {ops:Array Oper} {pH:List PI} {ps:List kO} {M:List Nat} {call:fC} {lo L0:Nat} {st:Nat→Env×aF}
 {m0:cK} {w0:World} {ds:List Deferred} {S:Nat→Prop} {m:cK} {c:Nat} {a:Act} {w:World} {k:Nat} {o:Oper} {p:kO} {pi:PI}
structure At (P:Program) (E:xL) (n:Nat) (ops:Array Oper) (pH:List PI) (ps:List kO) (M:List Nat) (S:Nat→Prop) (k:Nat) (o:Oper) (p:kO) (pi:PI):Prop where
 lt:k<ops.size
 eo:ops[k]? = some o
 ep:ps[k]? = some p
 epi:pH[k]? = some pi
 ok:Ub P E n ops.toList k o p pi
 dr:Lj E ops.toList ps M k o p pi
 akF:¬S k
 Zs:∀i,(M.getD k 0).testBit i=true→S i
 desc:∀i,i<ops.size→S i→(M.getD i 0).testBit k=true→False
theorem At.ah (A:At P E n ops pH ps M S k o p pi) {i:Nat} (hi:i<ops.size) (h:i=k∨ahead M k i=true):S i↔i<k:=by
 rcases Nat.lt_trichotomy i k with h1 | h1 | h1
 ·refine⟨fun _=>h1,fun _ => ?_⟩
  rcases h with h | h
  ·omega
  ·rw[Wr h1] at h;exact A.Zs i h
 ·subst h1
  exact⟨fun h=>absurd h A.akF,fun h=>by omega⟩
 ·refine⟨fun hs => ?_,fun h=>by omega⟩
  rcases h with h | h
  ·omega
  ·rw[sU h1] at h;exact absurd h (fun h=>A.desc i hi hs h)
theorem CZ {i:Nat} {oi:Oper} (h:ops.toList[i]? = some oi):i<ops.size:=by
 have:=(List.getElem?_eq_some_iff.1 h).1
 simpa using this
theorem At.reads (A:At P E n ops pH ps M S k o p pi) (I:pB E n ops ps lo L0 st m0 w0 ds S m c a w):∀t∈sH ops.toList o,RV m ((st k).1 t) (a.tmps.getD t undef):=by
 intro t ht
 refine I.tm t k (Nat.le_of_lt A.lt) fun i oi hi hd => ?_
 exact A.ah (CZ hi) (A.dr.Kt t (List.mem_append_right _ ht) i oi hi hd)
theorem At.operand (A:At P E n ops pH ps M S k o p pi) (I:pB E n ops ps lo L0 st m0 w0 ds S m c a w) {x:Operand} (hx:x∈o.op.operands):RV m (ev (st k).1 x) (a.eval x) :=
 P5 (HA A.ok.Tw x hx) fun t ht=>A.reads I t (B3 (ht▸hx))
theorem At.pair (T:Text P E n ops pH ps M call lo st) {i j:Nat} {p q:kO} (IW:i<j) (hj:j<ops.size) (hp:ps[i]? = some p) (hq:ps[j]? = some q):∃qi,pH[j]? = some qi∧BJ E ops.toList M i j p q qi.cf:=by
 obtain⟨o,q',qi,_,I9,UR,_,hd,_⟩:=T.at hj
 rw[hq] at I9
 cases I9
 exact⟨qi,UR,hd.afP i IW p hp⟩
theorem pB.late (T:Text P E n ops pH ps M call lo st) (I:pB E n ops ps lo L0 st m0 w0 ds S m c a w) {i:Nat} {q:kO} (hi:c<i) (hn:i<ops.size) (hS:S i) (hq:ps[i]? = some q):eR E q = .pure∨eR E q = .look:=by
 obtain⟨ZE,pc,Ys,UD⟩:=I.Zt (by omega)
 obtain⟨qi,_,gZ⟩:=At.pair T hi hn Ys hq
 unfold BJ at gZ
 rw[UD] at gZ
 obtain⟨oi,_,_,hoi,_⟩:=T.at hn
 have Mq:ops.toList[i]? = some oi:=by simpa using hoi
 have fin:ahead M c i=true→False:=fun h=>by
  rw[sU hi] at h
  exact ZE (T.Zs I.back Mq (I.back i oi Mq hS) h)
 cases jM:eR E q with
 | pure=>exact .inl rfl
 | look=>exact .inr rfl
 | quiet=>rw[jM] at gZ;exact absurd gZ fin
 | write=>rw[jM] at gZ;exact absurd gZ fin
theorem pB.Kt (T:Text P E n ops pH ps M call lo st) (I:pB E n ops ps lo L0 st m0 w0 ds S m c a w) (A:At P E n ops pH ps M S k o p pi) {m':cK} {v rv:Value} (hm:∀b l,m b=some l→m' b=some l) (hv:RV m' v rv)
  (he:(st (k+1)).1=put (st k).1 o.dst v):∀t j,j≤ops.size→(∀i o,ops.toList[i]? = some o→o.dst=some t→((i=k∨S i)↔i<j))→RV m' ((st j).1 t) ((a.put o.dst rv).tmps.getD t undef):=by
 intro t j hj hw
 have nW:ops.toList[k]? = some o:=by simpa using A.eo
 cases hd:o.dst with
 |
  none =>
  show RV m' _ (a.tmps.getD t undef)
  refine(I.tm t j hj fun i oi hi Xs => ?_).mono hm
  have cI:i≠k:=fun e=>by subst e;rw[nW] at hi;cases hi;rw[hd] at Xs;cases Xs
  rw[←hw i oi hi Xs]
  simp[cI]
 |
  some d =>
  rw[Mx (by rw[I.D6];exact A.ok.bound d hd)]
  by_cases htd:t=d
  ·subst htd
   rw[if_pos rfl]
   have hkj:k<j:=(hw k o nW hd).1 (.inl rfl)
   have e1:(st j).1 t=(st (k+1)).1 t:=by
    refine T.Lz hkj hj fun i oi hi1 En hoi Xs => ?_
    have Mq:ops.toList[i]? = some oi:=by simpa using hoi
    have hS:=(hw i oi Mq Xs).2 En
    have Zz:i≠k:=by omega
    have:=(A.ah (CZ Mq) (A.dr.Kt t (List.mem_append_left _ (by rw[hd];simp)) i oi Mq Xs)).1 (hS.resolve_left Zz)
    omega
   rw[e1,he,hd]
   show RV m' (if t=t then v else _) rv
   rw[if_pos rfl]
   exact hv
  ·rw[if_neg htd]
   refine(I.tm t j hj fun i oi hi Xs => ?_).mono hm
   have cI:i≠k:=fun e=>by subst e;rw[nW] at hi;cases hi;rw[hd] at Xs;cases Xs;exact htd rfl
   rw[←hw i oi hi Xs]
   simp[cI]
theorem pB.Ve (I:pB E n ops ps lo L0 st m0 w0 ds S m c a w) (A:At P E n ops pH ps M S k o p pi) (hr:∀e∈o.after.toList,Region.binds .any e=true→S e.on) :
  ∀i oi,ops.toList[i]? = some oi→(i=k∨S i)→∀e∈oi.after.toList,Region.binds .any e=true→(e.on=k∨S e.on):=by
 intro i oi hi hS e he hb
 rcases hS with rfl | hS
 ·have:ops.toList[i]? = some o:=by simpa using A.eo
  rw[this] at hi
  cases hi
  exact .inr (hr e he hb)
 ·exact .inr (I.back i oi hi hS e he hb)
theorem Ek (T:Text P E n ops pH ps M call lo st) {i j:Nat} {x:Operand} (IW:i≤j) (hj:j≤ops.size) (h:BH ops.toList i j x=true):ev (st j).1 x=ev (st i).1 x:=by
 cases x with
 |
  tmp t =>
  refine T.Lz IW hj fun q oq h1 h2 hoq hd => ?_
  have iN:=List.all_eq_true.1 h oq (by
   have aoF:ops.toList[q]? = some oq:=by simpa using hoq
   rw[List.mem_iff_getElem?]
   refine⟨q-i,?_⟩
   rw[List.getElem?_drop,List.getElem?_take,show i+(q-i)=q by omega,if_pos h2,aoF])
  simp[hd] at iN
 | const v=>rfl
 | global g=>rfl
 | func f=>rfl
theorem pB.look (T:Text P E n ops pH ps M call lo st) (I:pB E n ops ps lo L0 st m0 w0 ds S m c a w) (A:At P E n ops pH ps M S k o p pi) (yO:∀b,(st 0).2.length≤b→b<(st ops.size).2.length→m0 b=none)
  (jM:eR E p = .pure∨eR E p = .look) {v:Value} (hv:uC call lo pi (st k).1 (st k).2=some (v,(st (k+1)).2)):uC call lo pi (st k).1 (st c).2=some (v,(st c).2):=by
 rcases pY hv with⟨hw,rfl,_⟩ | ⟨hw,Ma,hp | ⟨f,args,hp,_⟩⟩
 ·unfold uC
  rw[hw]
 ·unfold uC
  rw[hw]
  simp only[Ma,if_true]
  have key:pop lo pi.op (st k).1 (st c).2=some (.val v (st c).2):=by
   rw[A.ok.op] at hp ⊢
   rcases jM with jM | jM
   ·have hlp:pP p=true:=by
     cases p<;>first | rfl | (cases jM;done) | skip
     case sub s x l hh mx=>cases mx<;>cases jM
     case call f as=>simp only[eR] at jM;split at jM<;>cases jM
    rw[tR hlp] at hp ⊢
    rw[(AU hp).1]
    rfl
   ·refine(Oe hp jM fun x hx b hb aR => ?_).2
    rcases Nat.lt_or_ge c k with hck | hck
    ·obtain⟨ZE,pc,Ys,UD⟩:=I.Zt (Nat.lt_trans hck A.lt)
     have He:b<(st c).2.length:=by
      rcases Nat.lt_or_ge b (st c).2.length with h | h
      ·exact h
      ·exfalso
       obtain⟨l,hl⟩:=WM (A.operand I (Tg A.ok.Tw hx)) hb
       have h0:=T.len (i:=0) (j:=c) (Nat.zero_le _) I.DA
       have h1:=T.len (i:=k) (j:=ops.size) (Nat.le_of_lt A.lt) (Nat.le_refl _)
       rcases I.TJ b l hl with h2 | ⟨i,hiS,cX,hi1,En⟩
       ·exact h2 (yO b (by omega) (by omega))
       ·rcases Nat.lt_trichotomy i c with h3 | h3 | h3
        ·have:=T.len (i:=i+1) (j:=c) h3 I.DA
         omega
        ·subst h3;exact ZE hiS
        ·obtain⟨oi,qi,pii,_,UR,_⟩:=T.at cX
         have:=I.late T h3 cX hiS UR
         rw[T.Q2 cX UR this] at En
         omega
     refine(T.Xf (Nat.le_of_lt hck) (Nat.le_of_lt A.lt) b He fun j hj1 Io q qi hq UR hqw ZB => ?_).symm
     obtain⟨pi',YB,gZ⟩:=At.pair T Io A.lt hq A.ep
     rw[A.epi] at YB
     cases YB
     unfold BJ at gZ
     rw[hqw,jM] at gZ
     rcases gZ with h | ⟨xa,xb,ha,xT,hun,DU⟩
     ·exfalso
      rw[sU Io] at h
      have hjS:=A.Zs j h
      rcases Nat.lt_or_ge c j with h3 | h3
      ·rcases I.late T h3 (Nat.lt_trans Io A.lt) hjS hq with h4 | h4<;>(rw[hqw] at h4;cases h4)
      ·have:j=c:=by omega
       subst this;exact ZE hjS
     ·rw[hx] at xT
      cases xT
      refine⟨xa,ha,fun e => ?_⟩
      have hk:=List.all_eq_true.1 Ma _ DU
      unfold wG at hk
      rw[Ek T (Nat.le_of_lt Io) (Nat.le_of_lt A.lt) hun,e,hb] at hk
      simp at hk
    ·refine T.Xf hck I.DA b aR fun j hj1 Io q qi hq UR hqw ZB => ?_
     have hjk:k<j:=by
      rcases Nat.lt_or_ge k j with h | h
      ·exact h
      ·have:j=k:=by omega
       subst this
       rw[A.ep] at hq
       cases hq
       rw[hqw] at jM
       cases jM
     have hjn:j<ops.size:=Nat.lt_of_lt_of_le Io I.DA
     obtain⟨oj,q',qi',hoj,I9,Wv,avS,_,vj,hvj,_⟩:=T.at hjn
     rw[hq] at I9
     cases I9
     rw[UR] at Wv
     cases Wv
     obtain⟨qi',Wv,gZ⟩:=At.pair T hjk hjn A.ep hq
     rw[UR] at Wv
     cases Wv
     unfold BJ at gZ
     rw[hqw,jM] at gZ
     rcases gZ with h | ⟨xa,xb,ha,xT,hun,DU⟩
     ·exfalso
      rw[sU hjk] at h
      exact A.desc j hjn (I.before j q Io hq hqw) h
     ·rw[hx] at ha
      cases ha
      refine⟨xb,xT,fun e => ?_⟩
      have anJ:qi.cf.all (wG (st j).1)=true:=by
       rcases pY hvj with⟨h,_⟩ | ⟨_,h,_⟩
       ·rw[ZB] at h;cases h
       ·exact h
      have hk:=List.all_eq_true.1 anJ _ DU
      unfold wG at hk
      rw[Ek T (Nat.le_of_lt hjk) (Nat.le_of_lt hjn) hun,e,hb] at hk
      simp at hk
  rw[key]
 ·exfalso
  rw[A.ok.op] at hp
  rcases oH hp with⟨g,as,rfl⟩ | ⟨g,as,rfl⟩
  ·simp only[eR] at jM
   split at jM<;>rcases jM with h | h<;>cases h
  ·rcases jM with h | h<;>cases h
end
end Go.PM
namespace Go.PM
section
variable {P:Program} {E:xL} {n:Nat} {ops:Array Oper} {pH:List PI} {ps:List kO} {M:List Nat} {call:fC} {lo L0:Nat} {st:Nat→Env×aF}
 {m0:cK} {w0:World} {ds:List Deferred}
theorem DZ {H:aF} {b:Nat} (h:H.length≤b):¬Live H b:=fun hl=>by have:=hl.lt;omega
theorem UC {S:Nat→Prop} {m:cK} {c:Nat} {a:Act} {w:World} {k:Nat} {o:Oper} (T:Text P E n ops pH ps M call lo st) (kR:sN P L0 call) (dP:L0≤lo) (IV:L0≤(st 0).2.length)
  (yO:∀b,(st 0).2.length≤b→b<(st ops.size).2.length→m0 b=none) (I:pB E n ops ps lo L0 st m0 w0 ds S m c a w) (ho:ops[k]? = some o) (hkS:¬S k)
  (hr:∀e∈o.after.toList,Region.binds .any e=true→S e.on) {K:Act→World→Prop} {Q:Exit→Act→World→Prop}
  (hK:∀m' c' a' w',pB E n ops ps lo L0 st m0 w0 ds (fun i=>i=k∨S i) m' c' a' w'→K a' w'):wpOp P ops Q k K a w:=by
 have aR:k<ops.size:=(Array.getElem?_eq_some_iff.1 ho).1
 obtain⟨o',p,pi,ho',hp,OG,nW,SE,v,hv,he⟩:=T.at aR
 rw[ho] at ho'
 cases ho'
 have ho2:ops.toList[k]? = some o:=by simpa using ho
 have A:At P E n ops pH ps M S k o p pi:=⟨aR,ho,hp,OG,nW,SE,hkS,fun i hi=>T.Zs I.back ho2 hr hi,fun i hi hS hb=>by
  have hio:ops.toList[i]? = some ops[i]:=by simp[hi]
  exact hkS (T.Zs I.back hio (I.back i _ hio hS) hb)⟩
 have Pw:=A.reads I
 have Ze:=T.len (i:=0) (j:=c) (Nat.zero_le _) I.DA
 have aeW:=T.len (i:=c) (j:=ops.size) I.DA (Nat.le_refl _)
 have afX:=T.len (i:=0) (j:=k) (Nat.zero_le _) (Nat.le_of_lt aR)
 have ajS:=T.len (i:=k+1) (j:=ops.size) aR (Nat.le_refl _)
 have alM:=T.ahJ aR
 have hfk:∀b,(st k).2.length≤b→b<(st (k+1)).2.length→m b=none:=by
  intro b h1 h2
  cases hm:m b with
  | none=>rfl
  |
   some l =>
   exfalso
   rcases I.TJ b l hm with h3 | ⟨i,hiS,cX,hi1,En⟩
   ·exact h3 (yO b (by omega) (by omega))
   ·rcases Nat.lt_trichotomy i k with h3 | h3 | h3
    ·have:=T.len (i:=i+1) (j:=k) h3 (Nat.le_of_lt aR)
     omega
    ·subst h3;exact hkS hiS
    ·have:=T.len (i:=k+1) (j:=i) h3 (Nat.le_of_lt cX)
     omega
 have MN:(eR E p = .pure∨eR E p = .look)→wpOp P ops Q k K a w:=by
  intro jM
  have hq:pi.quiet=false:=by
   rw[SE.quiet]
   rcases jM with h | h<;>rw[h]
  have hw:eR E p ≠ .write:=by rcases jM with h | h<;>(rw[h];exact fun h=>by cases h)
  refine Lb ho nW (fun h=>by rw[hq] at h;cases h) (I.look T A yO jM hv) Pw I.rel dP (Nat.le_trans IV Ze) (fun b h1 h2=>by omega) kR fun m' rv w' Pk hR hT => ?_
  rw[hq] at hT
  simp only[Bool.false_eq_true,if_false] at hT
  have hmm:m'=m:=by
   funext b
   cases hm:m b with
   | some l=>exact hT.ext b l hm
   |
    none =>
    cases hm':m' b with
    | none=>rfl
    | some l=>have:=(hT.new b l hm' hm).1;omega
  subst hmm
  refine hK m' c _ w' ⟨by rw[Dv];exact I.D6,by rw[DE];exact I.defs,I.Ve A hr,I.Kt T A (fun _ _ h=>h) Pk he,I.DA,fun i q h1 h2 h3 => .inr (I.before i q h1 h2 h3),?_,hR,?_,?_⟩
  ·intro h
   obtain⟨h1,q,h2,h3⟩:=I.Zt h
   refine⟨fun hS=>hS.elim (fun e => ?_) h1,q,h2,h3⟩
   subst e
   rw[hp] at h2
   cases h2
   exact hw h3
  ·exact Trans.trans (fun b h1 h2=>yO b h1 (by omega)) (T.VH (Nat.zero_le _) I.DA) (Ext.refl _ _) I.tr hT
  ·intro b l hb
   exact(I.TJ b l hb).imp id fun⟨i,h1,h2⟩=>⟨i,.inr h1,h2⟩
 cases jM:eR E p with
 |
  write =>
  have hkc:k=c:=by
   rcases Nat.lt_trichotomy k c with h | h | h
   ·exact absurd (I.before k p h hp jM) hkS
   ·exact h
   ·exfalso
    obtain⟨ZE,pc,Ys,UD⟩:=I.Zt (by omega)
    obtain⟨qi,_,gZ⟩:=At.pair T h aR Ys hp
    unfold BJ at gZ
    rw[UD,jM] at gZ
    simp only at gZ
    rw[sU h] at gZ
    exact ZE (A.Zs c gZ)
  subst hkc
  refine Lb ho nW (fun hq=>by rw[SE.quiet,jM] at hq;cases hq) hv Pw I.rel dP (Nat.le_trans IV Ze) hfk kR fun m' rv w' Pk hR hT => ?_
  have hq:pi.quiet=false:=by rw[SE.quiet,jM]
  rw[hq] at hT
  simp only[Bool.false_eq_true,if_false] at hT
  obtain⟨c',Zp,Xu,hc3,hc4⟩:=CT (fun i=>∃q,ps[i]? = some q∧eR E q = .write) _ (k+1) ops.size rfl aR
  have RQ:∀b,b<(st (k+1)).2.length→(st c').2[b]? = (st (k+1)).2[b]? := T.same Zp Xu fun i h1 h2 q hq hw=>hc3 i h1 h2 ⟨q,hq,hw⟩
  have akR:=T.len Zp Xu
  have ahZ:=T.len (i:=c') (j:=ops.size) Xu (Nat.le_refl _)
  have agO:∀b l,m' b=some l→m0 b≠none∨∃i,(i=k∨S i)∧i<ops.size∧(st i).2.length≤b∧b<(st (i+1)).2.length:=by
   intro b l hb
   cases hm:m b with
   | some l'=>exact(I.TJ b l' hm).imp id fun⟨i,h1,h2⟩=>⟨i,.inr h1,h2⟩
   | none=>exact .inr ⟨k,.inl rfl,aR,(hT.new b l hb hm).1⟩
  have aaR:∀b,(st (k+1)).2.length≤b→b<(st c').2.length→m' b=none:=by
   intro b h1 h2
   cases hm:m' b with
   | none=>rfl
   |
    some l =>
    exfalso
    rcases agO b l hm with h3 | ⟨i,hiS,cX,hi1,En⟩
    ·exact h3 (yO b (by omega) (by omega))
    ·rcases Nat.lt_trichotomy i k with h3 | h3 | h3
     ·have:=T.len (i:=i+1) (j:=k) h3 (Nat.le_of_lt aR)
      omega
     ·subst h3;omega
     ·obtain⟨oi,qi,pii,_,UR,_⟩:=T.at cX
      have:=I.late T h3 cX (hiS.resolve_left (by omega)) UR
      rw[T.Q2 cX UR this] at En
      omega
  have hTT:Trans lo m0 (st 0).2 w0 m' (st (k+1)).2 w':=Trans.trans (fun b h1 h2=>yO b h1 (by omega)) (T.VH (Nat.zero_le _) (Nat.le_of_lt aR)) (T.VH (Nat.le_succ _) aR) I.tr hT
  refine hK m' c' _ w' ⟨by rw[Dv];exact I.D6,by rw[DE];exact I.defs,I.Ve A hr,I.Kt T A hT.ext Pk he,Xu,?_,?_,hR.grow RQ aaR,?_,agO⟩
  ·intro i q hi hq hw
   rcases Nat.lt_trichotomy i k with h | h | h
   ·exact .inr (I.before i q h hq hw)
   ·exact .inl h
   ·exact absurd ⟨q,hq,hw⟩ (hc3 i h hi)
  ·intro h
   obtain⟨q,hq,hw⟩:=hc4 h
   refine⟨fun hS => ?_,q,hq,hw⟩
   rcases hS with hS | hS
   ·omega
   ·rcases I.late T (by omega) h hS hq with h4 | h4<;>(rw[hw] at h4;cases h4)
  ·refine⟨hTT.ext,fun b l hb hn => ?_,hTT.size,hTT.oB,hTT.same⟩
   obtain⟨⟨h1,h2⟩,h3⟩:=hTT.new b l hb hn
   refine⟨⟨h1,by omega⟩,?_⟩
   rcases h3 with h3 | h3 | h3
   ·exact .inl h3
   ·exact .inr (.inl fun hl=>h3 ((gI (RQ b h2)).1 hl))
   ·exact .inr (.inr h3)
 |
  quiet =>
  have hkc:k<c:=by
   rcases Nat.lt_or_ge k c with h | h
   ·exact h
   ·exfalso
    rcases Nat.lt_or_ge c k with h' | h'
    ·obtain⟨ZE,pc,Ys,UD⟩:=I.Zt (by omega)
     obtain⟨qi,_,gZ⟩:=At.pair T h' aR Ys hp
     unfold BJ at gZ
     rw[UD,jM] at gZ
     simp only at gZ
     rw[sU h'] at gZ
     exact ZE (A.Zs c gZ)
    ·have:k=c:=by omega
     subst this
     obtain⟨_,pc,Ys,UD⟩:=I.Zt aR
     rw[hp] at Ys
     cases Ys
     rw[jM] at UD
     cases UD
  have HG:∀i,k<i→i<c→∀q,ps[i]? = some q→eR E q ≠ .write:=by
   intro i h1 h2 q hq hw
   have cX:i<ops.size:=Nat.lt_of_lt_of_le h2 I.DA
   obtain⟨qi,_,gZ⟩:=At.pair T h1 cX hp hq
   unfold BJ at gZ
   rw[jM,hw] at gZ
   simp only at gZ
   rw[sU h1] at gZ
   exact A.desc i cX (I.before i q h2 hq hw) gZ
  have C6:∀b,b<(st (k+1)).2.length→(st c).2[b]? = (st (k+1)).2[b]? := T.same hkc I.DA fun i h1 h2 q hq=>HG i h1 h2 q hq
  have ZH:∀b,b<(st k).2.length→(st c).2[b]? = (st k).2[b]? := T.same (Nat.le_of_lt hkc) I.DA fun i h1 h2 q hq=>by
   rcases Nat.lt_or_ge k i with h | h
   ·exact HG i h h2 q hq
   ·have:i=k:=by omega
    subst this
    rw[hp] at hq
    cases hq
    rw[jM]
    exact fun h=>by cases h
  have apJ:=T.len (i:=k+1) (j:=c) hkc I.DA
  refine Lb ho nW (fun _=>jM) hv Pw (I.rel.restrict ZH) dP (Nat.le_trans IV afX) hfk kR fun m' rv w' Pk hR hT => ?_
  have hq:pi.quiet=true:=by rw[SE.quiet,jM]
  rw[hq] at hT
  simp only[if_true] at hT
  have yT:∀rb,rb<w.heap.size→w'.heap[rb]? = w.heap[rb]? := fun rb AF=>hT.oB rb AF fun b l hb _ hl=>absurd hl (DZ hb)
  have rE:∀b l,m' b=some l→m b=none→((st k).2.length≤b∧b<(st (k+1)).2.length)∧(w.heap.size≤l.rb∨¬Live (st (k+1)).2 b):=by
   intro b l h1 h2
   obtain⟨h3,h4⟩:=hT.new b l h1 h2
   refine⟨h3,?_⟩
   rcases h4 with h4 | h4 | ⟨b0,l0,g1,_,g3,_⟩
   ·exact .inl h4
   ·exact .inr h4
   ·exact absurd g3 (DZ g1)
  have aeC:∀b l,m b=some l→l.rb<w.heap.size:=by
   intro b l hb
   obtain⟨arr,e,fz,h1,_⟩:=I.rel.valid b l hb
   exact(Array.getElem?_eq_some_iff.1 h1).1
  have VP:∀rb j,rb<w.heap.size→w'.cell? ⟨rb,j,none⟩=w.cell? ⟨rb,j,none⟩:=by
   intro rb j AF
   unfold World.cell?
   simp only[yT rb AF]
  have Am:∀b l,m' b=some l→(st (k+1)).2.length≤b→m b=some l:=by
   intro b l hb h
   cases hm:m b with
   | some l'=>have:=hT.ext b l' hm;rw[hb] at this;exact this.symm
   | none=>have:=(rE b l hb hm).1.2;omega
  refine hK m' c _ w' ⟨by rw[Dv];exact I.D6,by rw[DE];exact I.defs,I.Ve A hr,I.Kt T A hT.ext Pk he,I.DA,fun i q h1 h2 h3 => .inr (I.before i q h1 h2 h3),?_,⟨hR.valid,?_,?_,?_⟩,?_,?_⟩
  ·intro h
   obtain⟨h1,q,h2,h3⟩:=I.Zt h
   exact⟨fun hS=>hS.elim (fun e=>by omega) h1,q,h2,h3⟩
  ·intro b l cs e pp hm hb
   rcases Nat.lt_or_ge b (st (k+1)).2.length with h | h
   ·exact hR.row b l cs e pp hm (by rw[←C6 b h];exact hb)
   ·have hmo:=Am b l hm h
    obtain⟨h1,h2,h3,h4⟩:=I.rel.row b l cs e pp hmo hb
    refine⟨h1,h2,h3,fun i hi => ?_⟩
    obtain⟨rv',g1,g2,g3⟩:=h4 i hi
    exact⟨rv',by rw[VP _ _ (aeC b l hmo)];exact g1,g2.mono hT.ext,g3⟩
  ·intro b1 b2 l1 l2 xE h1 h2 CL Fs AF
   have fresh:∀b b' l l',m' b=some l→m b=none→m b'=some l'→Live (st c).2 b→l.rb=l'.rb→False:=by
    intro b b' l l' g1 g2 g3 g4 g5
    obtain⟨⟨_,g6⟩,g7⟩:=rE b l g1 g2
    rcases g7 with g7 | g7
    ·have:=aeC b' l' g3;omega
    ·exact g7 ((gI (C6 b g6)).1 g4)
   cases Jd:m b1 with
   |
    some l1' =>
    cases SP:m b2 with
    |
     some l2' =>
     have e1:l1'=l1:=by have:=hT.ext b1 l1' Jd;rw[h1] at this;injection this with this;exact this.symm
     have e2:l2'=l2:=by have:=hT.ext b2 l2' SP;rw[h2] at this;injection this with this;exact this.symm
     subst e1 e2
     exact I.rel.inj b1 b2 _ _ xE Jd SP CL Fs AF
    |
     none =>
     have e1:l1'=l1:=by have:=hT.ext b1 l1' Jd;rw[h1] at this;injection this with this;exact this.symm
     subst e1
     exact(fresh b2 b1 _ _ h2 SP Jd Fs AF.symm).elim
   |
    none =>
    cases SP:m b2 with
    |
     some l2' =>
     have e2:l2'=l2:=by have:=hT.ext b2 l2' SP;rw[h2] at this;injection this with this;exact this.symm
     subst e2
     exact(fresh b1 b2 _ _ h1 Jd SP CL AF).elim
    |
     none =>
     have g1:=(rE b1 l1 h1 Jd).1.2
     have g2:=(rE b2 l2 h2 SP).1.2
     exact hR.inj b1 b2 l1 l2 xE h1 h2 ((gI (C6 b1 g1)).1 CL) ((gI (C6 b2 g2)).1 Fs) AF
  ·intro x hx
   refine⟨(hR.Ba x hx).1,fun b l hb hm hl => ?_⟩
   obtain⟨⟨e0,ZZ,q1⟩,q2⟩:=I.rel.Ba x hx
   cases Jd:m b with
   |
    some l' =>
    have e1:l'=l:=by have:=hT.ext b l' Jd;rw[hm] at this;injection this with this;exact this.symm
    subst e1
    exact q2 b l' hb Jd hl
   |
    none =>
    obtain⟨⟨_,g6⟩,g7⟩:=rE b l hm Jd
    rcases g7 with g7 | g7
    ·have:=(Array.getElem?_eq_some_iff.1 q1).1
     omega
    ·exact(g7 ((gI (C6 b g6)).1 hl)).elim
  ·refine⟨fun b l hb=>hT.ext b l (I.tr.ext b l hb),fun b l hb hn => ?_,Nat.le_trans I.tr.size hT.size,fun rb AF hk => ?_,hT.same.1.trans I.tr.same.1,hT.same.2.1.trans I.tr.same.2.1,hT.same.2.2.trans I.tr.same.2.2⟩
   ·cases hm:m b with
    |
     some l' =>
     have e1:l'=l:=by have:=hT.ext b l' hm;rw[hb] at this;injection this with this;exact this.symm
     subst e1
     exact I.tr.new b l' hm hn
    |
     none =>
     obtain⟨⟨g1,g2⟩,g3⟩:=rE b l hb hm
     refine⟨⟨by omega,by omega⟩,?_⟩
     rcases g3 with g3 | g3
     ·exact .inl (Nat.le_trans I.tr.size g3)
     ·exact .inr (.inl fun hl=>g3 ((gI (C6 b g2)).1 hl))
   ·rw[yT rb (Nat.lt_of_lt_of_le AF I.tr.size),I.tr.oB rb AF hk]
  ·intro b l hb
   cases hm:m b with
   | some l'=>exact(I.TJ b l' hm).imp id fun⟨i,h1,h2⟩=>⟨i,.inr h1,h2⟩
   | none=>exact .inr ⟨k,.inl rfl,aR,(rE b l hb hm).1⟩
 | pure=>exact MN (.inl jM)
 | look=>exact MN (.inr jM)
end
end Go.PM
namespace Go.PM
section
variable {P:Program} {E:xL} {n:Nat} {call:fC} {lo L0:Nat}
theorem Trans.fresh {m m':cK} {H H1 H2:aF} {w w':World} (h:Trans lo m H w m' H1 w') (h1:H.length≤H1.length) (hf:∀b,H.length≤b→b<H2.length→m b=none):∀b,H1.length≤b→b<H2.length→m' b=none:=by
 intro b xE Yp
 cases hm:m' b with
 | none=>rfl
 |
  some l =>
  exfalso
  have hn:=hf b (by omega) Yp
  have:=(h.new b l hm hn).1
  omega
structure Et (n L0:Nat) (m:cK) (ρ:Env) (H:aF) (a:Act) (w:World):Prop where
 D6:a.tmps.size=n
 defs:a.defers=[]
 env:∀t,RV m (ρ t) (a.tmps.getD t undef)
 rel:Rel m L0 H w
theorem JR {p q:Nat→Bool}:∀ {l:List Nat} {i:Nat},(∀x∈l,q x=true→p x=true)→i∈l→p i=true→q i=false→l.countP q<l.countP p
 |
  x::l,i,h,hi,hp,hq=>by
  rw[List.countP_cons,List.countP_cons]
  have hle:l.countP q≤l.countP p:=List.countP_mono_left fun x hx=>h x (List.mem_cons_of_mem _ hx)
  rcases List.mem_cons.1 hi with rfl | hi
  ·rw[if_neg (by simp[hq]),if_pos hp];omega
  ·have:=JR (fun x hx=>h x (List.mem_cons_of_mem _ hx)) hi hp hq
   have:(if q x=true then 1 else 0)≤(if p x=true then 1 else 0):=by
    by_cases hqx:q x=true
    ·rw[if_pos hqx,if_pos (h x List.mem_cons_self hqx)];omega
    ·rw[if_neg hqx];omega
   omega
theorem G9 {listed:Array Bool} {k i:Nat} (hk:k<listed.size):(listed.setIfInBounds k true).getD i false=true↔(i=k∨listed.getD i false=true):=by
 rcases Nat.lt_or_ge i listed.size with h | h
 ·by_cases e:i=k
  ·subst e;simp[h]
  ·simp[h,e,Ne.symm e]
 ·have:i≠k:=by omega
  simp[h,this]
theorem XE {ops:Array Oper} {pH:List PI} {ps:List kO} {M:List Nat} {st:Nat→Env×aF} {m0:cK} {w0:World} (T:Text P E n ops pH ps M call lo st) (kR:sN P L0 call) (dP:L0≤lo) (IV:L0≤(st 0).2.length)
  (yO:∀b,(st 0).2.length≤b→b<(st ops.size).2.length→m0 b=none) {Q:Exit→Act→World→Prop}
  (hQ:∀m' a' w',Et n L0 m' (st ops.size).1 (st ops.size).2 a' w'→Trans lo m0 (st 0).2 w0 m' (st ops.size).2 w'→Q .normal a' w') :
  ∀(fuel:Nat) (listed:Array Bool) (m:cK) (c:Nat) (a:Act) (w:World),listed.size=ops.size→((List.range ops.size).countP fun i => !listed.getD i false)≤fuel →
  pB E n ops ps lo L0 st m0 w0 [] (fun i=>listed.getD i false=true) m c a w→wpAny P .any ops Q fuel listed a w:=by
 have fin:∀(listed:Array Bool) (m:cK) (c:Nat) (a:Act) (w:World),listed.size=ops.size→(Region.ready .any ops listed=[])→pB E n ops ps lo L0 st m0 w0 [] (fun i=>listed.getD i false=true) m c a w→Q .normal a w:=by
  intro listed m c a w hs hr I
  have all:∀i,i<ops.size→listed.getD i false=true:=by
   intro i
   induction i using Nat.strongRecOn with
   |
    _ i ih =>
    intro hi
    cases hl:listed.getD i false with
    | true=>rfl
    |
     false =>
     exfalso
     obtain⟨o,p,pi,ho,_,_,_,SE,_⟩:=T.at hi
     have:i∈Region.ready .any ops listed:=by
      rw[mem_ready]
      refine⟨?_,o,ho,fun e he hb => ?_⟩
      ·have Gk:i<listed.size:=by omega
       simpa[Gk] using hl
      ·have:=SE.back e (by simpa using he) hb
       exact ih e.on this (by omega)
     rw[hr] at this
     cases this
  have hcN:c=ops.size:=by
   rcases Nat.lt_or_ge c ops.size with h | h
   ·exact absurd (all c h) (I.Zt h).1
   ·have:=I.DA;omega
  subst hcN
  exact hQ m a w ⟨I.D6,I.defs,fun t=>I.tm t ops.size (Nat.le_refl _) fun i o hi _=>⟨fun _=>CZ hi,fun h=>all i h⟩,I.rel⟩ I.tr
 intro fuel
 induction fuel with
 |
  zero =>
  intro listed m c a w hs hc I
  have hr:Region.ready .any ops listed=[]:=by
   rw[List.eq_nil_iff_forall_not_mem]
   intro i hi
   have B1:=mem_ready.1 hi
   obtain⟨h1,o,ho,_⟩:=B1
   have aR:i<ops.size:=(Array.getElem?_eq_some_iff.1 ho).1
   have h0:((List.range ops.size).countP fun i => !listed.getD i false)=0:=by omega
   rw[List.countP_eq_zero] at h0
   have:=h0 i (List.mem_range.2 aR)
   have Gk:i<listed.size:=by omega
   simp[Gk] at this h1
   rw[h1] at this
   cases this
  exact⟨hr,fin listed m c a w hs hr I⟩
 |
  succ fuel ih =>
  intro listed m c a w hs hc I
  refine⟨fun hr=>fin listed m c a w hs hr I,fun k hk => ?_⟩
  obtain⟨h1,o,ho,hb⟩:=mem_ready.1 hk
  have aR:k<ops.size:=(Array.getElem?_eq_some_iff.1 ho).1
  have hkl:k<listed.size:=by omega
  have hkf:listed.getD k false=false:=by simpa[hkl] using h1
  refine UC T kR dP IV yO I ho (by rw[hkf];exact fun h=>by cases h) (fun e he Xx=>hb e (by simpa using he) Xx) fun m' c' a' w' I'=>ih _ m' c' a' w' (by simpa using hs) ?_ ?_
  ·have:((List.range ops.size).countP fun i => !(listed.setIfInBounds k true).getD i false)<((List.range ops.size).countP fun i => !listed.getD i false):=by
    refine JR (i:=k) (fun x _ hx => ?_) (List.mem_range.2 aR) (by rw[hkf];rfl) ?_
    ·cases hlx:listed.getD x false with
     | false=>rfl
     |
      true =>
      have:=(G9 (i:=x) hkl).2 (.inr hlx)
      rw[this] at hx
      cases hx
    ·rw[(G9 hkl).2 (.inl rfl)];rfl
   omega
  ·have e:(fun i=>(listed.setIfInBounds k true).getD i false=true)=fun i=>i=k∨listed.getD i false=true:=by
    funext i
    exact propext (G9 hkl)
   rw[e]
   exact I'
theorem Rel.drew {m:cK} {H:aF} {w w':World} (h:Rel m L0 H w) (hw:w'.heap=w.heap):Rel m L0 H w':=by
 have hc:∀x,w'.cell? x=w.cell? x:=fun x=>by unfold World.cell?;rw[hw]
 refine⟨fun b l hb=>by rw[hw];exact h.valid b l hb,fun b l cs e p hm hb => ?_,h.inj,fun x hx=>⟨by rw[hw];exact(h.Ba x hx).1,(h.Ba x hx).2⟩⟩
 obtain⟨h1,h2,h3,h4⟩:=h.row b l cs e p hm hb
 refine⟨h1,h2,h3,fun i hi => ?_⟩
 rw[hc]
 exact h4 i hi
theorem O8 {id:Nat} {ops:Array Oper} {draw:Bool} {pH:List PI} (AX:P.follows .mixedOrders=true) (kR:sN P L0 call) (nP:nX call) (hp:tK P E n ops draw=some pH) {ρ aP:Env} {H H':aF}
  (hv:fT call lo pH ρ H=some (aP,H')) {m:cK} {a:Act} {w:World} (h:Et n L0 m ρ H a w) (dP:L0≤lo) (hlen:L0≤H.length) (hf:∀b,H.length≤b→b<H'.length→m b=none) {Q:Exit→Act→World→Prop}
  (hQ:∀m' a' w',Et n L0 m' aP H' a' w'→Trans lo m H w m' H' w'→Q .normal a' w'):(Code.region id ops draw).wp P Q a w:=by
 obtain⟨ps,M,nW⟩:=Gq hp
 obtain⟨st,ZH,hsn,Cs⟩:=DJ hv
 have hN:pH.length=ops.size:=by rw[nW.amL];simp
 rw[hN] at hsn
 cases draw with
 |
  true =>
  have T:Text P E n ops pH ps M call lo st:=⟨nW,nP,Cs⟩
  apply wp_region_any AX
  have e0:(st 0).1=ρ:=by rw[ZH]
  have e1:(st 0).2=H:=by rw[ZH]
  have e2:(st ops.size).1=aP:=by rw[hsn]
  have e3:(st ops.size).2=H':=by rw[hsn]
  obtain⟨c,Zp,Xu,hc3,hc4⟩:=CT (fun i=>∃q,ps[i]? = some q∧eR E q = .write) _ 0 ops.size rfl (Nat.zero_le _)
  have RQ:=T.same Zp Xu fun i h1 h2 q hq hw=>hc3 i h1 h2 ⟨q,hq,hw⟩
  have aeW:=T.len Zp Xu
  have ahZ:=T.len (i:=c) (j:=ops.size) Xu (Nat.le_refl _)
  have hgr:=h.rel.grow (by rw[←e1];exact RQ) (fun b h1 h2=>hf b h1 (by rw[←e3];omega))
  have UI:∀i,(Array.replicate ops.size false).getD i false=true→False:=by
   intro i hi
   rcases Nat.lt_or_ge i ops.size with h | h<;>simp[h] at hi
  refine XE (m0:=m) (w0:=w) T kR dP (by rw[e1];exact hlen) (by rw[e1,e3];exact hf) (by rw[e1,e2,e3];exact hQ) ops.size _ m c a _ (by simp) (Nat.le_trans List.countP_le_length (by simp)) ?_
  refine⟨h.D6,h.defs,fun i o _ hi=>(UI i hi).elim,fun t j hj hw => ?_,Xu,fun i q hi hq hw=>absurd ⟨q,hq,hw⟩ (hc3 i (Nat.zero_le _) hi),fun hc=>⟨fun h=>UI _ h,hc4 hc⟩,hgr.drew rfl,?_,fun b l hb => .inl (by rw[hb];exact fun h=>by cases h)⟩
  ·have e:(st j).1 t=ρ t:=by
    rw[←e0]
    refine T.Lz (Nat.zero_le _) hj fun i oi _ En hoi hd => ?_
    have Mq:ops.toList[i]? = some oi:=by simpa using hoi
    exact(UI i ((hw i oi Mq hd).2 En)).elim
   rw[e]
   exact h.env t
  ·rw[e1]
   refine⟨fun _ _ h=>h,fun b l hb hn=>(by rw[hb] at hn;cases hn),Nat.le_refl _,fun _ _ _=>rfl,rfl,rfl,rfl⟩
 |
  false =>
  apply wp_region
  have key:∀d i,ops.size-i=d→i≤ops.size→∀m1 a1 w1,Et n L0 m1 (st i).1 (st i).2 a1 w1→L0≤(st i).2.length→(∀b,(st i).2.length≤b→b<H'.length→m1 b=none) →
    (∀m' a' w',Et n L0 m' aP H' a' w'→Trans lo m1 (st i).2 w1 m' H' w'→Q .normal a' w')→wpOps P ops Q ((List.range ops.size).drop i) a1 w1:=by
   intro d
   induction d with
   |
    zero =>
    intro i hd hi m1 a1 w1 h1 _ _ hQ1
    have:i=ops.size:=by omega
    subst this
    rw[List.drop_eq_nil_of_le (by simp)]
    rw[hsn] at h1 hQ1
    exact hQ1 m1 a1 w1 h1 (Trans.refl _ _ _ _)
   |
    succ d ih =>
    intro i hd hi m1 a1 w1 h1 CL hf1 hQ1
    have aR:i<ops.size:=by omega
    rw[List.drop_eq_getElem_cons (by simpa using aR),wpOps_cons]
    have ho:ops.toList[i]? = some ops[i]:=by simp[aR]
    obtain⟨p,pi,hp1,hp2,ZR,_,SE⟩:=nW.each i _ ho
    have mZ:=Cs i pi hp2
    obtain⟨v,Zo,hv2⟩:=sO mZ
    have hq:pi.quiet=false:=(SE rfl).1
    have hE1:=Fa nP mZ
    have hE2:Ext lo (st (i+1)).2 H':=by
     have:∀d j,ops.size-j=d→j≤ops.size→Ext lo (st j).2 H':=by
      intro d
      induction d with
      | zero =>
        intro j hd hj;have:j=ops.size:=by omega
        subst this;rw[hsn];exact Ext.refl _ _
      |
       succ d ih =>
       intro j hd hj
       have QE:j<pH.length:=by omega
       exact(Fa nP (Cs j pH[j] (List.getElem?_eq_getElem QE))).trans (ih (j+1) (by omega) (by omega))
     exact this _ (i+1) rfl aR
    have vZ:(List.range ops.size)[i]'(by simpa using aR)=i:=by simp
    rw[vZ]
    refine Lb (by simp[aR]) ZR (fun h=>by rw[hq] at h;cases h) Zo (fun t _=>h1.env t) h1.rel dP CL (fun b xE Yp=>hf1 b xE (Nat.lt_of_lt_of_le Yp hE2.len)) kR fun m' rv w' Pk hR hT => ?_
    rw[hq] at hT
    simp only[Bool.false_eq_true,if_false] at hT
    refine ih (i+1) (by omega) aR m' _ w' ⟨by rw[Dv];exact h1.D6,by rw[DE];exact h1.defs,fun t => ?_,hR⟩ (Nat.le_trans CL hE1.len) (hT.fresh hE1.len hf1) fun m2 a2 w2 h2 hT2=>hQ1 m2 a2 w2 h2 (Trans.trans hf1 hE1 hE2 hT hT2)
    rw[hv2,ZR.dst]
    cases hd:ops[i].dst with
    | none=>exact(h1.env t).mono hT.ext
    |
     some d =>
     rw[Mx (by rw[h1.D6];exact ZR.bound d hd)]
     show RV m' (if t=d then v else (st i).1 t) _
     by_cases e:t=d
     ·rw[if_pos e,if_pos e];exact Pk
     ·rw[if_neg e,if_neg e];exact(h1.env t).mono hT.ext
  have:=key ops.size 0 (by omega) (Nat.zero_le _) m a w (by rw[ZH];exact h) (by rw[ZH];exact hlen) (by rw[ZH];exact hf) (by rw[ZH];exact hQ)
  simpa using this
end
end Go.PM