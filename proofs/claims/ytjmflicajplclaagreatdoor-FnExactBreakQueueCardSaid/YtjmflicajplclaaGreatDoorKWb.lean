/- Texts of a claim, in one: part 2. -/
import Derived.LoopN
import Derived.Test.YtjmflicajplclaaGreatDoorKWa
set_option linter.unusedSimpArgs false
set_option linter.unusedVariables false
namespace Go.PM
section
variable {P:Program} {m:dN} {L0:Nat} {H:aE} {w:World}
theorem RL.const {zs:List Value} (h:zs.all kR=true):RL m zs zs :=
 ⟨rfl,fun j hj=>by
  have:=RV.const (m:=m) (List.all_eq_true.1 h _ (List.getElem_mem hj))
  simpa[List.getD_eq_getElem?_getD,List.getElem?_eq_getElem hj] using this⟩
theorem uF (n:Nat) (zs:List Value):(cZ n zs).length=n*zs.length:=by simp[cZ]
theorem wJ (n:Nat) {zs:List Value} (h:zs.all kR=true) (h0:1≤zs.length):RL m (cZ n zs) (cZ n zs):=by
 refine⟨rfl,fun i hi => ?_⟩
 rw[uF] at hi
 have bI:i % zs.length<zs.length:=Nat.mod_lt _ h0
 have e:(cZ n zs).getD i undef=zs.getD (i % zs.length) undef:=by simp[cZ,List.getD_eq_getElem?_getD,hi]
 rw[e]
 exact(RL.const h).2 _ bI
theorem RQ (n:Nat) {zs:List Value} (h:zs.all fT=true) (h0:1≤zs.length):(cZ n zs).all fT=true:=by
 rw[List.all_eq_true]
 intro x hx
 obtain⟨i,_,rfl⟩:=List.mem_map.1 hx
 have bI:i % zs.length<zs.length:=Nat.mod_lt _ h0
 have:=List.all_eq_true.1 h _ (List.getElem_mem bI)
 simpa[List.getD_eq_getElem?_getD,List.getElem?_eq_getElem bI] using this
theorem IZ (z:Array Value) (n:Nat) (h0:1≤z.size):(madeCells z (n*z.size)).toList=cZ n z.toList:=by
 apply List.ext_getElem
 ·simp[madeCells,cZ]
 ·intro i h1 h2
  have bI:i % z.size<z.size:=Nat.mod_lt _ h0
  simp[madeCells,cZ,bI]
theorem GM (z:Array Value) (n:Nat) (h0:1≤z.size):(Builtin.zeroCells z n).toList=cZ n z.toList:=by
 apply List.ext_getElem
 ·simp[Builtin.zeroCells,cZ]
 ·intro i h1 h2
  have bI:i % z.size<z.size:=Nat.mod_lt _ h0
  simp[Builtin.zeroCells,cZ,bI]
theorem YP {t:TypeId} {agg:Bool} {size nb lo:Nat} {z:List Value} (ht:lY P t=some (agg,size,z,nb)) (HT:z.all fT=true) (S8:z.all kR=true) (hR:Rel m L0 H w) (hf:m H.length=none) :
  cQ P (do pure (.value (←Instr.alloc t true (.tuple #[])))) L0 lo m H w (.pointer (some ⟨H.length,0,none⟩)) (H++[.row z z.length false]):=by
 obtain⟨i,d,zz,hi,hd,Hm,rfl,rfl,rfl,rfl⟩:=iP ht
 have oT:(Instr.alloc t true (.tuple #[])).run P w = .ok (.pointer (some ⟨w.heap.size,0,none⟩)) (w.alloc (.cells zz.cells t)):=by
  simp[Instr.alloc,zeroValue,typeInfo,hi,Hm,newVar,newRow]
 have hA:=wR hR hf (w':=w.alloc (.cells zz.cells t)) (arr:=zz.cells) (e:=t) (fz:=(0,0)) rfl ⟨rfl,rfl,rfl⟩ (cs:=aO zz) (kL:=(aO zz).length) (Sl:=false)
  (by rw[eY];exact Nat.le_refl _) (fun i hi=>by
   have:=(RL.const (m:=m) S8).2 i hi
   rwa [←zL,fV]) HT (fun j _ h=>by simp at h)
 exact cQ.value oT (.ptr _ 0 _ (cE m _ _)) hA.1 (hA.2 lo)
theorem adM {t:TypeId} {v r:Value} {lo:Nat} (hv:RV m v r) (hs:(aO v).all fT=true) (hR:Rel m L0 H w) (hf:m H.length=none) :
  cQ P (do pure (.value (←Instr.box t r))) L0 lo m H w (.pointer (some ⟨H.length,0,none⟩)) (H++[.row (aO v) (aO v).length false]):=by
 have oT:(Instr.box t r).run P w = .ok (.pointer (some ⟨w.heap.size,0,none⟩)) (w.alloc (.cells r.cells t)):=by
  simp[Instr.box,newVar,newRow]
 have hA:=wR hR hf (w':=w.alloc (.cells r.cells t)) (arr:=r.cells) (e:=t) (fz:=(0,0)) rfl ⟨rfl,rfl,rfl⟩ (cs:=aO v) (kL:=(aO v).length) (Sl:=false)
  (by rw[eY,hv.aO.1];exact Nat.le_refl _) (fun i hi=>by
   have:=hv.aO.2 i hi
   rwa [←zL,fV]) hs (fun j _ h=>by simp at h)
 exact cQ.value oT (.ptr _ 0 _ (cE m _ _)) hA.1 (hA.2 lo)
theorem Xl {t:TypeId} {agg:Bool} {size nb lo:Nat} {z:List Value} {kl kc:IntKind} {l c:Int} (ht:jU P t=some (agg,size,z,nb)) (HT:z.all fT=true) (S8:z.all kR=true) (U0:size=z.length) (Eh:1≤size)
  (hl:0≤l) (hlc:l≤c) (hb:c*nb≤281474976710656) (hc:c≤9223372036854775807) (hR:Rel m L0 H w) (hf:m H.length=none) :
  cQ P (do pure (.value (←Instr.makeSlice t (.int kl l) (.int kc c)))) L0 lo m H w (.slice (some ⟨H.length,0,none⟩) l.toNat c.toNat) (H++[.row (cZ c.toNat z) z.length false]):=by
 obtain⟨e,hu,Jk⟩:=jG ht
 obtain⟨i,d,zz,hi,hd,Hm,rfl,rfl,rfl,rfl⟩:=iP Jk
 have oT:=run_make (P:=P) w t e i zz hu hi Hm kl kc l c hl hlc (by rw[Int.mul_comm];exact hb) hc
 have Bj:i.size=zz.cells.size:=by rw[U0,eY]
 rw[Bj] at oT Eh
 have Ue:(madeCells zz.cells (c.toNat*zz.cells.size)).toList=cZ c.toNat (aO zz):=by rw[IZ _ _ Eh,fV]
 have apA:(madeCells zz.cells (c.toNat*zz.cells.size)).size=c.toNat*(aO zz).length:=by rw[size_madeCells,eY]
 have W1:1≤(aO zz).length:=by rw[←eY];exact Eh
 have hA:=wR hR hf (w':=w.alloc (.cells (madeCells zz.cells (c.toNat*zz.cells.size)) e)) (arr:=madeCells zz.cells (c.toNat*zz.cells.size)) (e:=e) (fz:=(0,0)) rfl ⟨rfl,rfl,rfl⟩
  (cs:=cZ c.toNat (aO zz)) (kL:=(aO zz).length) (Sl:=false) (by rw[apA,uF];exact Nat.le_refl _) (fun j hj=>by
   have:=(wJ (m:=m) c.toNat S8 W1).2 j hj
   rwa [←zL,Ue]) (RQ _ HT W1) (fun j _ h=>by simp at h)
 refine cQ.value oT ?_ hA.1 (hA.2 lo)
 exact .slice _ 0 _ _ _ _ _ (cE m _ _) (by omega) (Nat.le_refl _) (fun _=>rfl) (.inr ⟨rfl,by simp only[apA];omega⟩)
theorem adO {t:TypeId} {agg:Bool} {size nb lo n:Nat} {z cs:List Value} {parts:List (Nat×Operand)} {ρ:Env} {a:Act} (ht:jU P t=some (agg,size,z,nb)) (HT:z.all fT=true) (S8:z.all kR=true) (U0:size=z.length) (Eh:1≤size) (hn:n*size≤16777216)
  (aiJ:vY ((List.range n).map fun i=>(i*z.length,z.length)) (cZ n z) (parts.map fun(i,x)=>(i,ev ρ x))=some cs) (vA:cs.all fT=true) (hr:∀p∈parts,RV m (ev ρ p.2) (a.eval p.2))
  (hR:Rel m L0 H w) (hf:m H.length=none) :
  cQ P (do pure (.value (←Instr.buildSlice t n (parts.toArray.map fun(i,x)=>(i,a.eval x))))) L0 lo m H w (.slice (some ⟨H.length,0,none⟩) n n) (H++[.row cs z.length false]):=by
 obtain⟨e,hu,Jk⟩:=jG ht
 obtain⟨i,d,zz,hi,hd,Hm,rfl,rfl,rfl,rfl⟩:=iP Jk
 have Bj:i.size=zz.cells.size:=by rw[U0,eY]
 have W1:1≤(aO zz).length:=by rw[←eY,←Bj];exact Eh
 have Ta:∀j q,((List.range n).map fun i=>(i*(aO zz).length,(aO zz).length))[j]? = some q→(fun i'=>some (i'*i.size,i.size):Nat→Option (Nat×Nat)) j=some q:=by
  intro j q hj
  simp only[List.getElem?_map,Option.map_eq_some_iff] at hj
  obtain⟨k,hk,rfl⟩:=hj
  have hk':=(List.getElem?_eq_some_iff.1 hk)
  obtain⟨hk1,Zm⟩:=hk'
  simp at Zm
  subst Zm
  rw[←U0]
 have hz:RL m (cZ n (aO zz)) ((Array.range (n*i.size)).map (zz.cells[· % zz.cells.size]!)).toList:=by
  have:=wJ (m:=m) n S8 W1
  rw[Bj]
  have e1:=IZ zz.cells n (by rw[←Bj];exact Eh)
  rw[fV] at e1
  show RL m _ (madeCells zz.cells (n*zz.cells.size)).toList
  rw[e1]
  exact this
 obtain⟨Ma,h1,h2⟩:=Q2 (m:=m) _ _ Ta (parts.map fun(i,x)=>(i,ev ρ x)) (parts.map fun(i,x)=>(i,a.eval x)) _ _ cs
  (by simp[Function.comp_def]) (by simpa[Function.comp_def] using RL.map (l:=parts) (f:=fun p=>ev ρ p.2) (g:=fun p=>a.eval p.2) hr) hz aiJ
 have hlen:cs.length=n*(aO zz).length:=by rw[Pe _ _ _ _ aiJ,uF]
 have emap:(Array.map (fun x:Nat×Operand=>(x.1,a.eval x.2)) parts.toArray).toList=parts.map fun(i,x)=>(i,a.eval x):=by simp
 have agR:¬(2^24<n*i.size):=by omega
 have oT:(Instr.buildSlice t n (parts.toArray.map fun(i,x)=>(i,a.eval x))).run P w = .ok (.slice (some ⟨w.heap.size,0,none⟩) n n) (w.alloc (.cells Ma e)):=by
  have XI:Instr.fill (fun i'=>some (i'*i.size,i.size)) ((Array.range (n*i.size)).map (zz.cells[· % zz.cells.size]!)) (Array.map (fun x:Nat×Operand=>(x.1,a.eval x.2)) parts.toArray).toList=some Ma:=by rw[emap];exact h1
  by_cases hn0:n*i.size=0
  ·rw[hn0] at XI
   simp only[show ∀f:Nat→Value,(Array.range 0).map f = #[] from fun f=>by simp] at XI
   unfold Instr.buildSlice
   simp only[Sem.run_bind,run_underlying hu,Result.andThen_ok,run_sizeOf e i hi,hn0,if_true,Sem.run_pure,show ¬(0>2^24) by omega,if_false]
   rw[show ∀f:Nat→Value,(Array.range 0).map f = #[] from fun f=>by simp]
   simp only[XI]
   simp[newRow]
  ·unfold Instr.buildSlice
   simp only[Sem.run_bind,run_underlying hu,Result.andThen_ok,run_sizeOf e i hi,hn0,if_false,Sem.run_pure,gt_iff_lt,agR,zeroValue,typeInfo,run_program,hi,Hm]
   simp only[XI]
   simp[newRow]
 have Kz:Ma.size=n*(aO zz).length:=by rw[←hlen];simpa using h2.1.symm
 have hA:=wR hR hf (w':=w.alloc (.cells Ma e)) (arr:=Ma) (e:=e) (fz:=(0,0)) rfl ⟨rfl,rfl,rfl⟩ (cs:=cs) (kL:=(aO zz).length) (Sl:=false)
  (by rw[hlen,Kz];exact Nat.le_refl _) (fun j hj=>by rw[←zL];exact h2.2 j hj) vA (fun j _ h=>by simp at h)
 refine cQ.value oT ?_ hA.1 (hA.2 lo)
 exact .slice _ 0 _ _ _ _ _ (cE m _ _) (Nat.le_refl _) (Nat.le_refl _) (fun _=>rfl) (.inr ⟨rfl,by simp only[Kz];omega⟩)
theorem UG (g:Value→ByteArray→Sem (ForInStep ByteArray)) (hg:∀n s,g (.int .u8 n) s=pure (ForInStep.yield (s.push (UInt8.ofNat n.toNat)))):∀(cs rs:List Value) (bs:List UInt8) (acc:ByteArray),RL m cs rs→tK cs=some bs→∀w,
  (forIn rs acc g).run P w = .ok ⟨(acc.data.toList++bs).toArray⟩ w:=by
 intro cs
 induction cs with
 |
  nil =>
  intro rs bs acc hr hb w
  have e0:rs=[]:=List.eq_nil_of_length_eq_zero hr.1.symm
  subst e0
  cases hb
  simp
 |
  cons c cs ih =>
  intro rs bs acc hr hb w
  cases rs with
  | nil=>exact absurd hr.1 (by simp)
  |
   cons r rs =>
   obtain⟨hc,XV⟩:=hr.jY
   unfold tK at hb
   split at hb
   ·rename_i heq;cases heq
   ·rename_i n rest heq
    cases heq
    cases hc
    cases h2:tK cs with
    | none=>rw[h2] at hb;cases hb
    |
     some bs' =>
     rw[h2] at hb
     cases hb
     simp only[List.forIn_cons,hg,Sem.run_bind,Sem.run_pure,Result.andThen_ok]
     rw[ih rs bs' _ XV h2 w]
     simp[ByteArray.push]
   ·cases hb
theorem aaQ {s d e:TypeId} {rp:Value} {lo n b off c:Nat} {cs:List Value} {bs:List UInt8} (hs:P.underlying s=some (.slice e)) (hd:P.underlying d=some .string) (he:P.underlying e=some (.int .u8))
  (VJ:H.read b off n=some cs) (hb:tK cs=some bs) (hR:Rel m L0 H w) (hp:RV m (.slice (some ⟨b,off,none⟩) n c) rp) :
  cQ P (do pure (.value (←convert s d rp))) L0 lo m H w (.string ⟨bs.toArray⟩) H:=by
 cases hp with
 |
  slice _ _ _ _ l ra rc hm hn hc hx ha =>
  obtain⟨rs,h1,h2,_,h3⟩:=yO hR hm VJ
  have aoY:(loadCells ra n).run P w = .ok rs.toArray w:=by
   rcases ha with ha | ⟨rfl,ha⟩
   ·have h0:n=0:=by omega
    subst h0
    have e0:rs=[]:=List.eq_nil_of_length_eq_zero h2
    subst e0
    rfl
   ·rw[←h2]
    exact run_loadCells_list w _ rs h3
  refine cQ.value (rv := .string ⟨bs.toArray⟩) (w':=w) (m':=m) ?_ (.str _) hR (Trans.refl lo m H w)
  simp only[convert,Sem.run_bind,run_underlying hs,run_underlying hd,Result.andThen_ok,run_underlying he,Conv.bytesToString,aoY,←Array.forIn_toList]
  rw[UG (P:=P) (m:=m) _ (fun n s=>rfl) cs rs bs ByteArray.empty h1 hb w]
  simp
theorem OG {t e:TypeId} {i:TypeInfo} (hu:P.underlying t=some (.slice e)) (hi:P.info? e=some i) {a:Option Addr} {n c:Nat} {lo mA mx:Option Value} {l h k:Nat}
  (hb:(Instr.sliceBounds true n c lo mA mx).run P w = .ok (l,h,k) w) :
  (Instr.sliceAt t (.slice a n c) lo mA mx).run P w = .ok (.slice (if k=l then a else a.map (·.add (l*i.size))) (h-l) (k-l)) w:=by
 have h1:(Instr.sliceAt t (.slice a n c) lo mA mx).run P w=(Instr.slice t (.slice a n c) lo mA mx).run P w:=by
  unfold Instr.sliceAt
  rw[Sem.run_bind,run_underlying hu,Result.andThen_ok]
 rw[h1]
 unfold Instr.slice
 rw[Sem.run_bind,run_underlying hu,Result.andThen_ok]
 simp[hb,run_sizeOf e i hi]
theorem abS {t e:TypeId} {i:TypeInfo} {lo:Nat} {x rx v:Value} {l h mx l' h' mx':Option Value} {H':aE} (hu:P.underlying t=some (.slice e)) (hi:P.info? e=some i)
  (hs:Cq i.size x l h mx H=some (v,H')) (hx:RV m x rx) (hl:RO m l l') (hh:RO m h h') (hm:RO m mx mx') (hR:Rel m L0 H w) (hf:∀b,H.length≤b→b<H'.length→m b=none) :
  cQ P (do pure (.value (←Instr.sliceAt t rx l' h' mx'))) L0 lo m H w v H':=by
 unfold Cq at hs
 split at hs
 ·rename_i n c
  split at hs
  ·rename_i h0
   obtain⟨rfl,rfl⟩:=h0
   cases hx
   split at hs
   ·cases hs
   ·rename_i M hM
    split at hs
    ·cases hs
    ·rename_i hb hhb
     split at hs
     ·cases hs
     ·rename_i lb ET
      cases hs
      have key:∃k1 k2 k3,(Instr.sliceBounds true 0 0 l' h' mx').run P w = .ok (k1,k2,k3) w∧k1=0∧k2=0∧k3=0:=by
       rcases oN (P:=P) hM hm with⟨rfl,rfl,e1⟩ | ⟨_,r1,rfl,rfl,q1,e1⟩<;>rcases oN (P:=P) hhb hh with⟨_,rfl,e2⟩ | ⟨_,r2,_,rfl,q2,e2⟩<;>rcases oN (P:=P) ET hl with⟨_,rfl,e3⟩ | ⟨_,r3,_,rfl,q3,e3⟩
       ·cases e1;cases e2;cases e3
        exact⟨0,0,0,rfl,rfl,rfl,rfl⟩
       ·cases e1;cases e2
        exact⟨lb,0,0,by simp[Instr.sliceBounds,e3 0 (Nat.le_refl _)],by omega,rfl,rfl⟩
       ·cases e1;cases e3
        exact⟨0,hb,0,by simp[Instr.sliceBounds,e2 0 (Nat.le_refl _)],rfl,by omega,rfl⟩
       ·cases e1
        exact⟨lb,hb,0,by simp[Instr.sliceBounds,e2 0 (Nat.le_refl _),e3 hb (Nat.le_refl _)],by omega,by omega,rfl⟩
       ·cases e2
       ·cases e2
       ·cases e3
        exact⟨0,hb,M,by simp[Instr.sliceBounds,e1 0 (Nat.le_refl _),e2 M (Nat.le_refl _)],rfl,by omega,by omega⟩
       ·exact⟨lb,hb,M,by simp[Instr.sliceBounds,e1 0 (Nat.le_refl _),e2 M (Nat.le_refl _),e3 hb (Nat.le_refl _)],by omega,by omega,by omega⟩
      obtain⟨k1,k2,k3,hk,rfl,rfl,rfl⟩:=key
      exact cQ.value (OG hu hi hk) (by simpa using RV.R8) hR (Trans.refl lo m H w)
  ·cases hs
 ·rename_i b o n c
  cases hx with
  |
   slice _ _ _ _ lc ra rc T1 hnc hcr hxp ha =>
   split at hs
   ·rename_i cells es p Vn
    obtain⟨g1,g2,g3,g4⟩:=hR.row b lc cells es p T1 Vn
    split at hs
    ·rename_i Nd
     subst Nd
     split at hs
     ·cases hs
     ·rename_i M hM
      split at hs
      ·cases hs
      ·rename_i hb hhb
       split at hs
       ·cases hs
       ·rename_i lb ET
        have key:∃k3,(Instr.sliceBounds true n rc l' h' mx').run P w = .ok (lb,hb,k3) w∧lb≤hb∧hb≤M∧M≤c∧((mx=none∧k3=rc∧M=c)∨(mx.isSome=true∧k3=M)):=by
         rcases oN (P:=P) hM hm with⟨rfl,rfl,e1⟩ | ⟨_,r1,rfl,rfl,q1,e1⟩<;>rcases oN (P:=P) hhb hh with⟨_,rfl,e2⟩ | ⟨_,r2,_,rfl,q2,e2⟩<;>rcases oN (P:=P) ET hl with⟨_,rfl,e3⟩ | ⟨_,r3,_,rfl,q3,e3⟩
         ·cases e1;cases e2;cases e3
          exact⟨rc,rfl,Nat.zero_le _,hnc,Nat.le_refl _,.inl ⟨rfl,rfl,rfl⟩⟩
         ·cases e1;cases e2
          exact⟨rc,by simp[Instr.sliceBounds,e3 n (Nat.le_refl _)],q3,hnc,Nat.le_refl _,.inl ⟨rfl,rfl,rfl⟩⟩
         ·cases e1;cases e3
          exact⟨rc,by simp[Instr.sliceBounds,e2 rc hcr],Nat.zero_le _,q2,Nat.le_refl _,.inl ⟨rfl,rfl,rfl⟩⟩
         ·cases e1
          exact⟨rc,by simp[Instr.sliceBounds,e2 rc hcr,e3 hb (Nat.le_refl _)],q3,q2,Nat.le_refl _,.inl ⟨rfl,rfl,rfl⟩⟩
         ·cases e2
         ·cases e2
         ·cases e3
          exact⟨M,by simp[Instr.sliceBounds,e1 rc hcr,e2 M (Nat.le_refl _)],Nat.zero_le _,q2,q1,.inr ⟨rfl,rfl⟩⟩
         ·exact⟨M,by simp[Instr.sliceBounds,e1 rc hcr,e2 M (Nat.le_refl _),e3 hb (Nat.le_refl _)],q3,q2,q1,.inr ⟨rfl,rfl⟩⟩
        obtain⟨k3,hk,hlh,hhM,hMc,MN⟩:=key
        have oT:=OG (a:=some ra) hu hi hk
        have place:k3-lb=0∨((if k3=lb then some ra else (some ra).map (·.add (lb*i.size)))=some (⟨lc.rb,lc.base+(o+lb*i.size),none⟩:Addr)∧lc.base+(o+lb*i.size)+(k3-lb)*lc.kL≤lc.O6):=by
         by_cases hz:k3-lb=0
         ·exact .inl hz
         ·right
          have hk3:k3≤rc:=by rcases MN with⟨_,rfl,_⟩ | ⟨_,rfl⟩<;>omega
          rcases ha with ha | ⟨rfl,ha⟩
          ·omega
          ·rw[if_neg (by omega)]
           refine⟨by simp[Addr.add_lit,Nat.add_assoc],?_⟩
           rw[g1] at ha ⊢
           have e1:(k3-lb)*i.size=k3*i.size-lb*i.size:=Nat.sub_mul _ _ _
           have e2:lb*i.size≤k3*i.size:=Nat.mul_le_mul_right _ (by omega)
           have e3:k3*i.size≤rc*i.size:=Nat.mul_le_mul_right _ hk3
           omega
        obtain⟨ra',apP⟩:∃ra',(if k3=lb then some ra else (some ra).map (·.add (lb*i.size)))=some ra':=by split<;>exact⟨_,rfl⟩
        rw[apP] at oT
        have akN:k3-lb=0∨(ra'=⟨lc.rb,lc.base+(o+lb*i.size),none⟩∧lc.base+(o+lb*i.size)+(k3-lb)*lc.kL≤lc.O6):=by
         rcases place with hp | ⟨hp1,Ki⟩
         ·exact .inl hp
         ·rw[apP] at hp1
          exact .inr ⟨by injection hp1,Ki⟩
        split at hs
        ·rename_i azE
         cases hs
         obtain⟨aqW,hMl⟩:=azE
         rcases MN with⟨rfl,_⟩ | ⟨_,rfl⟩
         ·cases aqW
         ·have hA:=XK hR (hf H.length (Nat.le_refl _) (by simp)) T1 i.size
          refine cQ.value (rv := .slice (some ra') 0 0) (by rw[oT];congr 2<;>omega) ?_ hA.1 (hA.2 lo)
          exact .slice _ 0 0 0 _ _ 0 (cE m _ _) (Nat.le_refl _) (Nat.le_refl _) (fun _=>rfl) (.inl rfl)
        ·cases hs
         refine cQ.value oT ?_ hR (Trans.refl lo m H w)
         refine .slice b _ _ _ lc _ _ T1 (by omega) ?_ ?_ akN
         ·rcases MN with⟨_,rfl,rfl⟩ | ⟨_,rfl⟩<;>omega
         ·intro ho
          have:=hxp ho
          rcases MN with⟨_,rfl,rfl⟩ | ⟨_,rfl⟩<;>omega
    ·cases hs
   ·cases hs
 ·cases hs
end
end Go.PM
namespace Go.PM
section
variable {P:Program} {m:dN} {L0:Nat} {H:aE} {w:World}
theorem TR {t:TypeId} {i:TypeInfo} {lo b o:Nat} {v r rp:Value} {H':aE} (hi:P.info? t=some i) (hp:RV m (.pointer (some ⟨b,o,none⟩)) rp) (hv:RV m v r) (hs:(aO v).length=i.size)
  (hw:H.write lo b o (aO v)=some H') (hR:Rel m L0 H w) (dK:L0≤lo) :
  cQ P (do Instr.storeAt t rp r;pure .skip) L0 lo m H w undef H':=by
 cases hp with
 |
  ptr _ _ l hm =>
  obtain⟨w',s1,s2,s3⟩:=DP P hR dK hm hw hv.aO
  refine⟨undef,w',m,.inr ⟨?_,rfl⟩,RV.undef m,s2,s3⟩
  have Bj:r.cells.size=i.size:=by rw[eY,←hv.aO.1,hs]
  have h1:(Instr.storeAt t (.pointer (some ⟨l.rb,l.base+o,none⟩)) r).run P w = .ok () w':=by
   show (storeVar t ⟨l.rb,l.base+o,none⟩ r).run P w=_
   unfold storeVar
   simp only[Sem.run_bind,run_sizeOf t i hi,Result.andThen_ok,Bj,ne_eq,not_true_eq_false,if_false,fV]
   exact s1
  rw[Sem.run_bind,h1]
  rfl
theorem Ir {pv rv:Value} {k:Nat} (h:sJ pv=some k) (hr:RV m pv rv):Builtin.lenOf rv=pure k:=by
 unfold sJ at h
 split at h
 ·cases h;cases hr<;>rfl
 ·cases h;cases hr;rfl
 ·cases h
theorem Cf (a b:Array Value) (xs:List Value) (h:a.toList=xs) (i:Nat) (hi:i<xs.length):(a++b).getD i undef=xs.getD i undef:=by
 subst h
 have:i<a.size:=by simpa using hi
 simp[Array.getD_eq_getD_getElem?,Array.getElem?_append_left this,List.getD_eq_getElem?_getD]
theorem YU {t u ty:TypeId} {agg:Bool} {size bytes lo k:Nat} {z:List Value} {d:TypeDesc} {x y rx ry v:Value} {new:List Value} {H':aE} (ht:jU P t=some (agg,size,z,bytes)) (hu:P.underlying u=some d) (hd:KZ d=true)
  (hk:sJ y=some k) (AT:jB H size k y=some new) (rQ:eO lo size bytes x k new H=some (v,H')) (hx:RV m x rx) (hy:RV m y ry) (U0:size=z.length)
  (hR:Rel m L0 H w) (dK:L0≤lo) (hf:∀b,H.length≤b→b<H'.length→m b=none) :
  cQ P (do pure (.value (←Builtin.append_ #[t,u] ty #[rx,ry]))) L0 lo m H w v H':=by
 obtain⟨e,Jk,PR⟩:=jG ht
 obtain⟨i,de,zz,hi,_,Hm,rfl,rfl,rfl,rfl⟩:=iP PR
 obtain⟨pS,h1,h2,h3⟩:=Je AT hk (Nat.le_refl _) hR hy
 have hl:=Ir hk hy
 have Eb:1≤i.bytes:=by
  unfold eO at rQ
  split at rQ
  ·rename_i h;exact h.1
  ·cases rQ
 have hnl:new.length=k*i.size:=by
  unfold eO at rQ
  split at rQ
  ·rename_i h;exact h.2.2.2
  ·cases rQ
 obtain⟨rv,w',m',g1,g2,g3,g4⟩:=IW (P:=P) (s:=Builtin.append_ #[t,u] ty #[rx,ry]) (e:=e) rQ hR dK hx h1 hf
  (fun a n c w' Gg B9 Fg=>by
   subst Gg
   exact P5 Jk hu hd hi hl (h3 w rfl) B9 Fg)
  (fun Gg hk0=>by
   subst Gg
   subst hk0
   exact QW Jk hu hd hi hl (h3 w rfl))
  (fun base n c CB Gg hfo jJ hg hb=>by
   subst Gg
   refine⟨grownCap w (n+k) c e,_,grownCap_ge w _ _ _,PE Jk hu hd hi Hm hl hfo (h3 w.drew rfl) hg Eb hb,?_,?_⟩
   ·have EO:=grownCap_ge w (n+k) c e
    have yT:pS.length=k*i.size:=by rw[←h1.1,hnl]
    simp only[Array.size_append,List.size_toArray,size_zeroCells,jJ,yT]
    rw[←eY] at U0
    rw[←U0,←Nat.add_mul,←Nat.add_mul]
    congr 1
    omega
   ·intro j hj
    exact Cf _ _ _ (by simp) j hj)
 exact cQ.value g1 g2 g3 g4
section
variable {t u ty e:TypeId} {ku:IntKind} {i:TypeInfo} {zz:Value} {k:Nat}
theorem Gk {k:Nat} (h:k≤140737488355328):IntKind.i64.wrap (k:Int)=(k:Int):=by rw[IntKind.wrap_i64];omega
theorem MZ (ht:P.underlying t=some (.slice e)) (hu:P.underlying u=some (.int ku)) (hi:P.info? e=some i) (Hm:i.zero=some zz) (hk:k≤140737488355328) (HY:k*i.bytes≤140737488355328)
  {a:Addr} {n c:Nat} {w':World} (B9:n+k≤c) (hz:k*i.size=0→Builtin.zeroCells zz.cells k = #[]) (Fg:(storeCells (a.add (n*i.size)) (Builtin.zeroCells zz.cells k).toList).run P w = .ok () w') :
  (Builtin.append_ #[t,u] ty #[.slice (some a) n c,.int .i64 k]).run P w = .ok (.slice (some a) (n+k) c) w':=by
 have h0:¬((k:Int)<0):=by omega
 have hb:¬(281474976710656<(k:Int)*(i.bytes:Int)):=by rw[←Int.natCast_mul];omega
 by_cases Eh:k*i.size=0
 ·rw[hz Eh] at Fg
  simp[Builtin.append_,run_underlying ht,run_underlying hu,run_sizeOf e i hi,asInt,asIntOf,Gk hk,typeInfo,hi,h0,hb,B9,Eh,Fg]
 ·simp[Builtin.append_,run_underlying ht,run_underlying hu,run_sizeOf e i hi,asInt,asIntOf,Gk hk,typeInfo,hi,h0,hb,B9,Eh,zeroValue,Hm,Fg]
theorem PW (ht:P.underlying t=some (.slice e)) (hu:P.underlying u=some (.int ku)) (hi:P.info? e=some i) :
  (Builtin.append_ #[t,u] ty #[.slice none 0 0,.int .i64 (0:Nat)]).run P w = .ok (.slice none 0 0) w:=by
 have hw:IntKind.i64.wrap 0=0:=rfl
 simp[Builtin.append_,run_underlying ht,run_underlying hu,run_sizeOf e i hi,asInt,asIntOf,hw,typeInfo,hi]
theorem MW (ht:P.underlying t=some (.slice e)) (hu:P.underlying u=some (.int ku)) (hi:P.info? e=some i) (Hm:i.zero=some zz) (hk:k≤140737488355328) (HY:k*i.bytes≤140737488355328)
  {base:Option Addr} {n c:Nat} {CB:List Value} (hfo:(Builtin.firstCells i.size n (.slice base n c)).run P w.drew = .ok CB.toArray w.drew) (hz:k*i.size=0→Builtin.zeroCells zz.cells k = #[])
  (hg:c<n+k) (Eb:1≤i.bytes) (MD:(n+k)*i.bytes≤140737488355328) :
  (Builtin.append_ #[t,u] ty #[.slice base n c,.int .i64 k]).run P w = .ok (.slice (some ⟨w.heap.size,0,none⟩) (n+k) (grownCap w (n+k) c e))
   (w.drew.alloc (.cells (CB.toArray++Builtin.zeroCells zz.cells k++Builtin.zeroCells zz.cells (grownCap w (n+k) c e-(n+k))) e)):=by
 have tF:=growslice_fits (bytes:=i.bytes) hg MD
 have h0:¬((k:Int)<0):=by omega
 have hb:¬(281474976710656<(k:Int)*(i.bytes:Int)):=by rw[←Int.natCast_mul];omega
 have h1:¬(n+k≤c):=by omega
 have h2:¬(281474976710656<Builtin.nextslicecap (n+k) c*i.bytes):=by omega
 have h4:n+k≤140737488355328:=Nat.le_trans (Nat.le_mul_of_pos_right _ Eb) MD
 have h3:¬(9223372036854775807<(n:Int)+(k:Int)):=by omega
 by_cases Eh:k*i.size=0
 ·have e0:=hz Eh
  simp[Builtin.append_,run_underlying ht,run_underlying hu,run_sizeOf e i hi,asInt,asIntOf,Gk hk,typeInfo,hi,h0,hb,h1,h2,h3,e0,zeroValue,Hm,Question.forced,hfo,newRow,grownCap]
 ·simp[Builtin.append_,run_underlying ht,run_underlying hu,run_sizeOf e i hi,asInt,asIntOf,Gk hk,typeInfo,hi,h0,hb,h1,h2,h3,Eh,zeroValue,Hm,Question.forced,hfo,newRow,grownCap]
end
theorem XN {t u ty:TypeId} {agg:Bool} {size bytes lo:Nat} {z:List Value} {ku:IntKind} {n:Int} {x rx v:Value} {H':aE} (ht:jU P t=some (agg,size,z,bytes)) (hu:P.underlying u=some (.int ku))
  (hn:0≤n∧n*bytes≤140737488355328) (rQ:eO lo z.length bytes x n.toNat (cZ n.toNat z) H=some (v,H')) (hx:RV m x rx) (U0:size=z.length) (HT:z.all fT=true) (S8:z.all kR=true) (Eh:1≤z.length)
  (hR:Rel m L0 H w) (dK:L0≤lo) (hf:∀b,H.length≤b→b<H'.length→m b=none) :
  cQ P (do pure (.value (←Builtin.append_ #[t,u] ty #[rx,.int .i64 n]))) L0 lo m H w v H':=by
 obtain⟨e,Jk,PR⟩:=jG ht
 obtain⟨i,de,zz,hi,_,Hm,rfl,rfl,rfl,rfl⟩:=iP PR
 obtain⟨k,rfl⟩:=Int.eq_ofNat_of_zero_le hn.1
 simp only[Int.toNat_natCast] at rQ
 have Eb:1≤i.bytes:=by
  unfold eO at rQ
  split at rQ
  ·rename_i h;exact h.1
  ·cases rQ
 have HY:k*i.bytes≤140737488355328:=by have:=hn.2;omega
 have hk:k≤140737488355328:=Nat.le_trans (Nat.le_mul_of_pos_right _ Eb) HY
 have Bj:i.size=zz.cells.size:=by rw[U0,eY]
 have W1:1≤zz.cells.size:=by rw[eY];exact Eh
 have sE:(Builtin.zeroCells zz.cells k).toList=cZ k (aO zz):=by rw[GM _ _ W1,fV]
 have asN:k*i.size=0→Builtin.zeroCells zz.cells k = #[]:=by
  intro h0
  apply Array.ext'
  rw[sE]
  exact List.eq_nil_of_length_eq_zero (by rw[uF,←U0];exact h0)
 obtain⟨rv,w',m',g1,g2,g3,g4⟩:=IW (P:=P) (s:=Builtin.append_ #[t,u] ty #[rx,.int .i64 k]) (e:=e) (pS:=cZ k (aO zz)) rQ hR dK hx (wJ k S8 Eh) hf
  (fun a n c w' Gg B9 Fg=>by
   subst Gg
   exact MZ Jk hu hi Hm hk HY B9 asN (by rw[sE,U0];exact Fg))
  (fun Gg hk0=>by
   subst Gg
   subst hk0
   exact PW Jk hu hi)
  (fun base n c CB Gg hfo jJ hg hb=>by
   subst Gg
   refine⟨grownCap w (n+k) c e,_,grownCap_ge w _ _ _,MW Jk hu hi Hm hk HY (by rw[U0];exact hfo) asN hg Eb hb,?_,?_⟩
   ·have EO:=grownCap_ge w (n+k) c e
    simp only[Array.size_append,List.size_toArray,size_zeroCells,jJ,eY]
    rw[←Nat.add_mul,←Nat.add_mul]
    congr 1
    omega
   ·intro j hj
    exact Cf _ _ _ (by simp[sE]) j hj)
 exact cQ.value g1 g2 g3 g4
theorem XF {t ty:TypeId} {ts:List TypeId} {agg:Bool} {size bytes lo b o d c k:Nat} {z new:List Value} {y rx ry:Value} {H':aE} (ht:jU P t=some (agg,size,z,bytes))
  (hk:sJ y=some k) (AT:jB H size (Nat.min k d) y=some new) (hw:H.write lo b o new=some H') (hx:RV m (.slice (some ⟨b,o,none⟩) d c) rx) (hy:RV m y ry)
  (hR:Rel m L0 H w) (dK:L0≤lo) :
  cQ P (do pure (.value (←Builtin.copy_ (t::ts).toArray ty #[rx,ry]))) L0 lo m H w (.int .i64 (Nat.min k d)) H':=by
 obtain⟨e,Jk,PR⟩:=jG ht
 obtain⟨i,de,zz,hi,_,Hm,rfl,rfl,rfl,rfl⟩:=iP PR
 obtain⟨pS,h1,h2,h3⟩:=Je (P:=P) AT hk (Nat.min_le_left _ _) hR hy
 have hl:=Ir hk hy
 cases hx with
 |
  slice _ _ _ _ l ra rc hm hn hc hxp ha =>
  rcases ha with ha | ⟨rfl,ha⟩
  ·have CR:d=0:=by omega
   subst CR
   have PS:Nat.min k 0=0:=Nat.min_zero k
   rw[PS] at AT h3 ⊢
   have sE:new=[]:=by
    have:pS.length=new.length:=h1.1.symm
    unfold jB at AT
    split at AT
    ·obtain⟨_,_,_,_,_,_,hlen⟩:=OW AT
     exact List.eq_nil_of_length_eq_zero (by simpa using hlen)
    ·split at AT
     ·cases AT;rfl
     ·cases AT
    ·split at AT
     ·cases AT;simp
     ·cases AT
    ·cases AT
   subst sE
   have hrn:pS=[]:=List.eq_nil_of_length_eq_zero h1.1.symm
   subst hrn
   have hHH:H'=H:=by
    obtain⟨cs,e',p',q1,q2,q3,q4,rfl⟩:=Bp hw
    apply List.ext_getElem?
    intro j
    by_cases hj:b=j
    ·subst hj
     rw[List.getElem?_set_self (List.getElem?_eq_some_iff.1 q1).1,q1]
     simp[iQ]
    ·rw[List.getElem?_set_ne hj]
   rw[hHH]
   refine cQ.value (rv := .int .i64 0) (w':=w) ?_ (.int _ _) hR (Trans.refl lo m _ w)
   have hf0:=h3 w rfl
   simp[Builtin.copy_,run_underlying Jk,hl,run_sizeOf e i hi,goInt,hf0,storeCells]
  ·obtain⟨w',s1,s2,s3⟩:=DP P hR dK hm hw h1
   refine cQ.value (rv := .int .i64 (Nat.min k d)) ?_ (.int _ _) s2 s3
   have hf0:=h3 w rfl
   unfold Builtin.copy_
   simp only[List.getElem?_toArray,List.getElem?_cons_zero,List.getElem?_cons_succ,Sem.run_bind,run_underlying Jk,Result.andThen_ok,hl,Sem.run_pure,run_sizeOf e i hi]
   rw[hf0]
   simp only[Result.andThen_ok,s1,goInt]
theorem UU {t ty e:TypeId} {ts:List TypeId} {i:TypeInfo} {zz:Value} {lo b o n c:Nat} {rx:Value} {H':aE} (Jk:P.underlying t=some (.slice e)) (hi:P.info? e=some i) (Hm:i.zero=some zz)
  (hn0:n≠0) (hw:H.write lo b o (cZ n (aO zz))=some H') (hx:RV m (.slice (some ⟨b,o,none⟩) n c) rx) (S8:(aO zz).all kR=true) (Eh:1≤(aO zz).length) (hR:Rel m L0 H w) (dK:L0≤lo) :
  cQ P (do pure (.value (←Builtin.clear_ (t::ts).toArray ty #[rx]))) L0 lo m H w undef H':=by
 cases hx with
 |
  slice _ _ _ _ l ra rc hm hn hc hxp ha =>
  rcases ha with ha | ⟨rfl,ha⟩
  ·omega
  ·obtain⟨w',s1,s2,s3⟩:=DP P hR dK hm hw (wJ n S8 Eh)
   have sE:(Builtin.zeroCells zz.cells n).toList=cZ n (aO zz):=by rw[GM _ _ (by rw[eY];exact Eh),fV]
   refine cQ.value (rv:=undef) ?_ (RV.undef m) s2 s3
   rw[←sE] at s1
   obtain⟨n',rfl⟩:∃n',n=n'+1:=⟨n-1,by omega⟩
   simp[Builtin.clear_,run_underlying Jk,zeroValue,typeInfo,hi,Hm,s1,undef]
theorem IS {t ty e:TypeId} {ts:List TypeId} {lo c:Nat} {a:Option Addr} {rx:Value} (Jk:P.underlying t=some (.slice e)) (hx:RV m (.slice a 0 c) rx) (hR:Rel m L0 H w) :
  cQ P (do pure (.value (←Builtin.clear_ (t::ts).toArray ty #[rx]))) L0 lo m H w undef H:=by
 refine cQ.value (rv:=undef) (w':=w) ?_ (RV.undef m) hR (Trans.refl lo m _ w)
 cases hx<;>simp[Builtin.clear_,run_underlying Jk,undef]
end
end Go.PM
namespace Go.PM
section
variable {P:Program} {m:dN} {L0:Nat} {H:aE} {w:World}
theorem DF {po:nK} {ρ:Env} {v:Value} {H':aE} (h:(iO po ρ).map (Out.val · H)=some (.val v H')):iO po ρ=some v∧H'=H:=by
 cases hp:iO po ρ with
 | none=>rw[hp] at h;cases h
 | some u=>rw[hp] at h;cases h;exact⟨rfl,rfl⟩
def uB:nK→Bool
 | .load .. | .sub .. | .b2s _ | .new _ | .box _ | .make .. | .lit .. | .call .. | .store .. | .app .. | .appz .. | .copy .. | .clear .. | .callv .. => false
 | _=>true
theorem yM {lo:Nat} {po:nK} {ρ:Env} (h:uB po=true):pop lo po ρ H=(iO po ρ).map (.val · H):=by
 cases po<;>first | rfl | cases h
theorem SS {pv rv:Value} {k:Nat} (size:Nat) (h:sJ pv=some k) (hr:RV m pv rv):(Builtin.firstCells size 0 rv).run P w = .ok #[] w:=by
 unfold sJ at h
 split at h
 ·cases hr
  ·rfl
  ·simp only[Builtin.firstCells,Nat.zero_mul]
   rfl
 ·cases hr
  simp[Builtin.firstCells]
 ·cases h
theorem Ws {o:Oper} {po:nK} {ρ:Env} {a:Act} {lo:Nat} {v:Value} {H':aE} (hp:pW P o.op=some po) (hv:pop lo po ρ H=some (.val v H')) (hr:∀x∈o.op.operands,RV m (ev ρ x) (a.eval x))
  (hR:Rel m L0 H w) (dK:L0≤lo) (hf:∀b,H.length≤b→b<H'.length→m b=none):cQ P (execOp a.eval o) L0 lo m H w v H':=by
 by_cases iY:uB po=true
 ·rw[yM iY] at hv
  obtain⟨h1,rfl⟩:=DF hv
  obtain⟨rv,h2,h3⟩:=acB hp h1 hr
  exact⟨rv,w,m,.inl (h3 w),h2,hR,Trans.refl lo m _ w⟩
 obtain⟨dst,op,type,pos,after,guard⟩:=o
 unfold pW at hp
 simp only at hp hr ⊢
 split at hp
 case isFalse=>cases hp
 cases op with
 | move x=>cases hp;exact absurd rfl iY
 | assign x=>cases hp;exact absurd rfl iY
 | pick c x y=>cases hp;exact absurd rfl iY
 |
  binOp op t x y yt =>
  unfold BU at hp
  simp only at hp
  split at hp
  ·cases hp;exact absurd rfl iY
  ·cases hp;exact absurd rfl iY
  ·split at hp<;>first | (cases hp;done) | (cases hp;exact absurd rfl iY)
  ·split at hp<;>first | (cases hp;done) | (split at hp<;>first | (cases hp;done) | (cases hp;exact absurd rfl iY))
  ·split at hp<;>first | (cases hp;done) | (cases hp;exact absurd rfl iY)
  ·cases hp
 | unOp op t x=>cases hp;exact absurd rfl iY
 | extract x i=>cases hp;exact absurd rfl iY
 |
  convert s d x =>
  have hx:=hr x (by simp[Op.operands])
  simp only at hp
  split at hp
  ·cases hp;exact absurd rfl iY
  ·cases hp;exact absurd rfl iY
  ·rename_i e hs hd
   split at hp
   ·rename_i he
    cases hp
    simp only[pop] at hv
    split at hv
    ·rename_i n c YJ
     cases hv
     rw[YJ] at hx
     show cQ P (do pure (.value (←convert s d (a.eval x)))) L0 lo m H w _ H
     generalize a.eval x=rx at hx ⊢
     cases hx
     refine cQ.value (rv := .string ByteArray.empty) ?_ (.str _) hR (Trans.refl lo m _ w)
     simp[convert,run_underlying hs,run_underlying hd,run_underlying he,Conv.bytesToString]
    ·rename_i b o n c YJ
     split at hv
     ·rename_i cs XV
      cases hb:tK cs with
      | none=>rw[hb] at hv;cases hv
      |
       some bs =>
       rw[hb] at hv
       cases hv
       rw[YJ] at hx
       exact aaQ hs hd he XV hb hR hx
     ·cases hv
    ·cases hv
   ·cases hp
  ·cases hp
 |
  field t x i =>
  simp only at hp
  split at hp
  ·split at hp
   ·rename_i f hf'
    cases ht:lY P f.type with
    | none=>rw[ht] at hp;cases hp
    | some q=>rw[ht] at hp;cases hp;exact absurd rfl iY
   ·cases hp
  ·cases hp
 |
  build t parts =>
  simp only at hp
  split at hp
  ·split at hp
   ·split at hp
    ·cases hp;exact absurd rfl iY
    ·cases hp
   ·cases hp
  ·cases hp
 | nilCheck x=>cases hp;exact absurd rfl iY
 |
  fieldAddr t x i =>
  simp only at hp
  split at hp
  ·split at hp
   ·split at hp
    ·split at hp
     ·cases hp
     ·cases hp;exact absurd rfl iY
    ·cases hp
   ·cases hp
  ·cases hp
 |
  indexAddr t x i =>
  simp only at hp
  cases ht:jU P t with
  | none=>rw[ht] at hp;cases hp
  | some q=>rw[ht] at hp;cases hp;exact absurd rfl iY
 |
  index t x i =>
  simp only at hp
  split at hp
  ·cases hp;exact absurd rfl iY
  ·cases hp
 |
  slice t x gP hi mx =>
  have hx:=hr x (by simp[Op.operands])
  simp only at hp
  split at hp
  ·split at hp
   ·cases hp;exact absurd rfl iY
   ·cases hp
  ·rename_i e hu
   cases ht:lY P e with
   | none=>rw[ht] at hp;cases hp
   |
    some q =>
    obtain⟨agg,size,z,nb⟩:=q
    rw[ht] at hp
    cases hp
    obtain⟨i,d,zz,mA,_,_,rfl,rfl,rfl,rfl⟩:=iP ht
    simp only[pop] at hv
    cases hs:Cq i.size (ev ρ x) (gP.map (ev ρ)) (hi.map (ev ρ)) (mx.map (ev ρ)) H with
    | none=>rw[hs] at hv;cases hv
    |
     some q =>
     obtain⟨u,H1⟩:=q
     rw[hs] at hv
     cases hv
     exact abS hu mA hs hx (RO.map fun y hy=>hr y (by simp[Op.operands,hy])) (RO.map fun y hy=>hr y (by simp[Op.operands,hy])) (RO.map fun y hy=>hr y (by simp[Op.operands,hy])) hR hf
  ·cases hp
 |
  makeFunc fn first fR =>
  cases fn with
  |
   func f =>
   simp only at hp
   split at hp
   ·cases hp;exact absurd rfl iY
   ·cases hp
  | _=>cases hp
 | makeInterface t x=>cases hp;exact absurd rfl iY
 | panic x=>cases hp;exact absurd rfl iY
 |
  load t p =>
  have hx:=hr p (by simp[Op.operands])
  simp only at hp
  cases ht:lY P t with
  | none=>rw[ht] at hp;cases hp
  |
   some q =>
   obtain⟨agg,size,z,nb⟩:=q
   rw[ht] at hp
   cases hp
   simp only[pop] at hv
   cases hl:nM agg size (ev ρ p) H with
   | none=>rw[hl] at hv;cases hv
   |
    some u =>
    rw[hl] at hv
    cases hv
    obtain⟨rv,h1,h2⟩:=NV ht hl hR hx
    exact cQ.value h2 h1 hR (Trans.refl lo m _ w)
 |
  store t p x =>
  have hpp:=hr p (by simp[Op.operands])
  have hx:=hr x (by simp[Op.operands])
  simp only at hp
  cases ht:P.info? t with
  | none=>rw[ht] at hp;cases hp
  |
   some i =>
   rw[ht] at hp
   cases hp
   simp only[pop] at hv
   split at hv
   ·rename_i b o hpo
    split at hv
    ·rename_i hs
     cases hw:H.write lo b o (aO (ev ρ x)) with
     | none=>rw[hw] at hv;cases hv
     |
      some H1 =>
      rw[hw] at hv
      cases hv
      rw[hpo] at hpp
      exact TR ht hpp hx hs hw hR dK
    ·cases hv
   ·cases hv
 |
  alloc t =>
  simp only at hp
  split at hp
  ·rename_i agg size z nb ht
   split at hp
   ·rename_i hz
    cases hp
    simp only[Bool.and_eq_true] at hz
    cases hv
    exact YP ht hz.1 hz.2 hR (hf _ (Nat.le_refl _) (by simp))
   ·cases hp
  ·cases hp
 |
  box t x =>
  have hx:=hr x (by simp[Op.operands])
  cases hp
  simp only[pop] at hv
  split at hv
  ·rename_i hs
   cases hv
   exact adM hx hs hR (hf _ (Nat.le_refl _) (by simp))
  ·cases hv
 |
  makeSlice t l c =>
  have hl:=hr l (by simp[Op.operands])
  have hc:=hr c (by simp[Op.operands])
  simp only at hp
  split at hp
  ·rename_i agg size z nb ht
   split at hp
   ·rename_i hz
    cases hp
    simp only[Bool.and_eq_true,beq_iff_eq,decide_eq_true_eq] at hz
    obtain⟨⟨⟨z1,z2⟩,z3⟩,z4⟩:=hz
    simp only[pop] at hv
    split at hv
    ·rename_i l' c' BW Uq
     split at hv
     ·rename_i hb
      cases hv
      rw[BW] at hl
      rw[Uq] at hc
      show cQ P (do pure (.value (←Instr.makeSlice t (a.eval l) (a.eval c)))) L0 lo m H w _ _
      generalize a.eval l=rl at hl ⊢
      generalize a.eval c=rc at hc ⊢
      cases hl
      cases hc
      exact Xl ht z1 z2 z3 z4 hb.1 hb.2.1 hb.2.2.1 hb.2.2.2 hR (hf _ (Nat.le_refl _) (by simp))
     ·cases hv
    ·cases hv
   ·cases hp
  ·cases hp
 |
  buildSlice t n parts =>
  simp only at hp
  split at hp
  ·rename_i agg size z nb ht
   split at hp
   ·rename_i hz
    cases hp
    simp only[Bool.and_eq_true,beq_iff_eq,decide_eq_true_eq] at hz
    obtain⟨⟨⟨⟨z1,z2⟩,z3⟩,z4⟩,z5⟩:=hz
    simp only[pop] at hv
    split at hv
    ·rename_i cs XV
     split at hv
     ·rename_i vA
      cases hv
      have:=adO (P:=P) (w:=w) (lo:=lo) (a:=a) ht z1 z2 z3 z4 z5 XV vA (fun p hpm=>hr p.2 (by simp only[Op.operands];simp;exact⟨p.1,by simpa using hpm⟩)) hR (hf _ (Nat.le_refl _) (by simp))
      rw[Array.toArray_toList] at this
      exact this
     ·cases hv
    ·cases hv
   ·cases hp
  ·cases hp
 |
  call c =>
  obtain⟨callee,args,ts⟩:=c
  cases callee with
  |
   builtin b =>
   have S5:∀x∈args,RV m (ev ρ x) (a.eval x):=fun x hx=>hr x (by simpa[Op.operands,Call.operands] using hx)
   simp only at hp
   unfold oB at hp
   split at hp
   ·split at hp<;>first | (cases hp;done) | (cases hp;exact absurd rfl iY)
   ·split at hp<;>first | (cases hp;done) | (cases hp;exact absurd rfl iY)
   ·cases hp;exact absurd rfl iY
   ·cases hp;exact absurd rfl iY
   ·rename_i x y t u CQ yJ hts _
    have ea:args = #[x,y]:=Array.toList_inj.1 (by simpa using yJ)
    subst ea
    have hx:=S5 x (by simp)
    have hy:=S5 y (by simp)
    have awX:∃tr,ts=(t::u::tr).toArray:=⟨CQ,Array.toList_inj.1 (by simpa using hts)⟩
    obtain⟨tr,rfl⟩:=awX
    show cQ P (do pure (.value (←Builtin.append_ (t::u::tr).toArray type ((#[x,y]:Array Operand).map a.eval)))) L0 lo m H w v H'
    rw[J6]
    have avV:∀r1 r2,Builtin.append_ (t::u::tr).toArray type #[r1,r2]=Builtin.append_ #[t,u] type #[r1,r2]:=fun r1 r2=>by simp[Builtin.append_]
    rw[avV]
    split at hp
    ·rename_i agg size zero bytes ku ht hu
     split at hp
     ·rename_i hz
      cases hp
      simp only[Bool.and_eq_true,beq_iff_eq,decide_eq_true_eq] at hz
      obtain⟨⟨⟨z1,z2⟩,z3⟩,z4⟩:=hz
      simp only[pop] at hv
      split at hv
      ·rename_i n hn
       split at hv
       ·rename_i hb
        cases rQ:eO lo zero.length bytes (ev ρ x) n.toNat (cZ n.toNat zero) H with
        | none=>rw[rQ] at hv;cases hv
        |
         some q =>
         obtain⟨u',H1⟩:=q
         rw[rQ] at hv
         cases hv
         rw[hn] at hy
         generalize a.eval y=ry at hy ⊢
         cases hy
         exact XN ht hu hb rQ hx z4 z1 z2 z3 hR dK hf
       ·cases hv
      ·cases hv
     ·cases hp
    ·rename_i agg size zero bytes d _ ht hu
     split at hp
     ·rename_i hd
      split at hp
      ·rename_i U0
       cases hp
       simp only[pop] at hv
       split at hv
       ·rename_i k hk
        split at hv
        ·rename_i new sE
         cases rQ:eO lo size bytes (ev ρ x) k new H with
         | none=>rw[rQ] at hv;cases hv
         |
          some q =>
          obtain⟨u',H1⟩:=q
          rw[rQ] at hv
          cases hv
          exact YU ht hu hd hk sE rQ hx hy (by simpa using U0) hR dK hf
        ·cases hv
       ·cases hv
      ·cases hp
     ·cases hp
    ·cases hp
   ·rename_i x y t CQ yJ hts _
    have ea:args = #[x,y]:=Array.toList_inj.1 (by simpa using yJ)
    have et:ts=(t::CQ).toArray:=Array.toList_inj.1 (by simpa using hts)
    subst ea;subst et
    have hx:=S5 x (by simp)
    have hy:=S5 y (by simp)
    show cQ P (do pure (.value (←Builtin.copy_ (t::CQ).toArray type ((#[x,y]:Array Operand).map a.eval)))) L0 lo m H w v H'
    rw[J6]
    split at hp
    ·rename_i agg size zero bytes ht
     cases hp
     simp only[pop] at hv
     split at hv
     ·rename_i n c k YJ hk
      cases hv
      rw[YJ] at hx
      generalize a.eval x=rx at hx ⊢
      cases hx
      obtain⟨e,Jk,PR⟩:=jG ht
      obtain⟨i,de,zz,hi,_,Hm,_,_,_,_⟩:=iP PR
      refine cQ.value (rv := .int .i64 0) (w':=w) ?_ (.int _ _) hR (Trans.refl lo m _ w)
      have hl:=Ir hk hy
      have hf0:=SS (P:=P) (w:=w) i.size hk hy
      simp[Builtin.copy_,run_underlying Jk,hl,run_sizeOf e i hi,goInt,hf0]
     ·rename_i b o d c k YJ hk
      split at hv
      ·rename_i new sE
       cases hw:H.write lo b o new with
       | none=>rw[hw] at hv;cases hv
       |
        some H1 =>
        rw[hw] at hv
        cases hv
        rw[YJ] at hx
        exact XF ht hk sE hw hx hy hR dK
      ·cases hv
     ·cases hv
    ·cases hp
   ·rename_i x t CQ yJ hts _
    have ea:args = #[x]:=Array.toList_inj.1 (by simpa using yJ)
    have et:ts=(t::CQ).toArray:=Array.toList_inj.1 (by simpa using hts)
    subst ea;subst et
    have hx:=S5 x (by simp)
    show cQ P (do pure (.value (←Builtin.clear_ (t::CQ).toArray type ((#[x]:Array Operand).map a.eval)))) L0 lo m H w v H'
    rw[PJ]
    split at hp
    ·rename_i agg size zero bytes ht
     split at hp
     ·rename_i hz
      cases hp
      simp only[Bool.and_eq_true,beq_iff_eq,decide_eq_true_eq] at hz
      obtain⟨⟨⟨z1,z2⟩,z3⟩,z4⟩:=hz
      obtain⟨e,Jk,PR⟩:=jG ht
      obtain⟨i,de,zz,hi,_,Hm,rfl,rfl,rfl,rfl⟩:=iP PR
      simp only[pop] at hv
      split at hv
      ·rename_i n c YJ
       cases hv
       rw[YJ] at hx
       generalize a.eval x=rx at hx ⊢
       cases hx
       exact IS Jk .R8 hR
      ·rename_i b o n c YJ
       rw[YJ] at hx
       split at hv
       ·rename_i hn0
        cases hv
        subst hn0
        exact IS Jk hx hR
       ·rename_i hn0
        cases hw:H.write lo b o (cZ n (aO zz)) with
        | none=>rw[hw] at hv;cases hv
        |
         some H1 =>
         rw[hw] at hv
         cases hv
         exact UU Jk hi Hm hn0 hw hx z2 z4 hR dK
      ·cases hv
     ·cases hp
    ·cases hp
   ·cases hp
  |
   value f =>
   cases f with
   | func g=>cases hp;cases hv
   |
    tmp t =>
    cases hp
    simp only[pop] at hv
    split at hv<;>cases hv
   | const c=>cases hp
   | global g=>cases hp
  | invoke r s=>cases hp
 | _=>cases hp
def Ls (P:Program) (f:Nat):Prop:=∃fn,P.funcs[f]? = some fn∧(fn.name == "runtime.NumGoroutine")=false∧fn.body.isNone=false
theorem Gf {f:Nat} {args:Array Value} (h:Ls P f):(callFunc f args).run P w = .ok (.enter f args) w:=by
 obtain⟨fn,h1,h2,h3⟩:=h
 unfold callFunc
 rw[Sem.run_bind,run_program,Result.andThen_ok,h1]
 simp[h2,h3]
theorem map_none {α β:Type} {o:Option α} {f:α→β} {x:β} (h:o.map f=some x) (hf:∀y,f y≠x):False:=by
 cases o with
 | none=>cases h
 | some y=>injection h with h;exact hf y h
theorem WW {op:Op} {g:Nat} {as:List Operand} (h:pW P op=some (.call g as)):∃args ts,op = .call ⟨.value (.func g),args,ts⟩∧as=args.toList:=by
 unfold pW at h
 split at h
 case isFalse=>cases h
 cases op with
 |
  call c =>
  obtain⟨callee,args,ts⟩:=c
  cases callee with
  |
   builtin b =>
   exfalso
   simp only[oB] at h
   repeat' (split at h)
   all_goals cases h
  |
   value f =>
   cases f with
   | func g'=>cases h;exact⟨args,ts,rfl,rfl⟩
   | _=>cases h
  | invoke r s=>cases h
 |
  _ =>
  exfalso
  dsimp only at h
  try unfold BU at h
  repeat' (split at h)
  all_goals first
   | contradiction
   | (cases h;done)
   | exact map_none h (by intro y h;cases h)
theorem Ul {op:Op} {fv:Operand} {as:List Operand} (h:pW P op=some (.callv fv as)):∃args ts,op = .call ⟨.value fv,args,ts⟩∧as=args.toList:=by
 unfold pW at h
 split at h
 case isFalse=>cases h
 cases op with
 |
  call c =>
  obtain⟨callee,args,ts⟩:=c
  cases callee with
  |
   builtin b =>
   exfalso
   simp only[oB] at h
   repeat' (split at h)
   all_goals cases h
  |
   value f =>
   cases f with
   | tmp g'=>cases h;exact⟨args,ts,rfl,rfl⟩
   | _=>cases h
  | invoke r s=>cases h
 |
  _ =>
  exfalso
  dsimp only at h
  try unfold BU at h
  repeat' (split at h)
  all_goals first
   | contradiction
   | (cases h;done)
   | exact map_none h (by intro y h;cases h)
theorem rY {po:nK} {ρ:Env} {lo f:Nat} {args:List Value} (hv:pop lo po ρ H=some (.call f args)):(∃g as,po = .call g as)∨(∃g as,po = .callv g as):=by
 by_cases iY:uB po=true
 ·rw[yM iY] at hv
  cases hpp:iO po ρ with
  | none=>rw[hpp] at hv;cases hv
  | some u=>rw[hpp] at hv;cases hv
 cases po<;>first | exact absurd rfl iY | exact .inl ⟨_,_,rfl⟩ | exact .inr ⟨_,_,rfl⟩ | skip
 all_goals
  exfalso
  simp only[pop] at hv
  repeat' (split at hv)
  all_goals first
   | (cases hv;done)
   | (revert hv;generalize aE.write _ _ _ _ _=q;cases q<;>intro hv<;>cases hv)
   | (revert hv;generalize nM _ _ _ _=q;cases q<;>intro hv<;>cases hv)
   | (revert hv;generalize Cq _ _ _ _ _ _=q;cases q<;>intro hv<;>cases hv)
   | (revert hv;generalize eO _ _ _ _ _ _ _=q;cases q<;>intro hv<;>cases hv)
   | (revert hv;generalize tK _=q;cases q<;>intro hv<;>cases hv)
theorem Yd {o:Oper} {po:nK} {ρ:Env} {a:Act} {lo f:Nat} {args:List Value} (hp:pW P o.op=some po) (hv:pop lo po ρ H=some (.call f args)) (hr:∀x∈o.op.operands,RV m (ev ρ x) (a.eval x)) :
  ∃gO,RL m args gO∧(Ls P f→∀w,(execOp a.eval o).run P w = .ok (.enter f gO.toArray) w):=by
 have key:=rY hv
 obtain⟨dst,op,type,pos,after,guard⟩:=o
 simp only at hp hr ⊢
 rcases key with⟨g,as,rfl⟩ | ⟨g,as,rfl⟩
 ·obtain⟨Cg,ts,rfl,rfl⟩:=WW hp
  cases hv
  refine⟨Cg.toList.map a.eval,RL.map fun x hx=>hr x (by simp[Op.operands,Call.operands];right;simpa using hx),fun hc w => ?_⟩
  have e1:(Cg.toList.map a.eval).toArray=Cg.map a.eval:=Array.toList_inj.1 (by rw[Array.toList_map])
  rw[e1]
  have e2:execOp a.eval ⟨dst,.call ⟨.value (.func f),Cg,ts⟩,type,pos,after,guard⟩=callFunc f ((#[]++Cg.map a.eval) ++ #[]):=rfl
  rw[e2,Gf hc]
  simp
 ·obtain⟨Cg,ts,rfl,rfl⟩:=Ul hp
  have hg:=hr g (by simp[Op.operands,Call.operands])
  simp only[pop] at hv
  split at hv
  ·rename_i f' first fR hfv
   cases hv
   rw[hfv] at hg
   generalize hrg:a.eval g=rg at hg
   cases hg with
   |
    func fn f1 g1 c1 d1 h1 h2 h3 h4 =>
    refine⟨g1.toList++Cg.toList.map a.eval++d1.toList,((RL.arr h1 h2).append (RL.map fun x hx=>hr x (by simp[Op.operands,Call.operands];right;simpa using hx))).append (RL.arr h3 h4),fun hc w => ?_⟩
    have e1:(g1.toList++Cg.toList.map a.eval++d1.toList).toArray=(g1++Cg.map a.eval)++d1:=by
     apply Array.ext'
     simp
    rw[e1]
    have e2:(execOp a.eval ⟨dst,.call ⟨.value g,Cg,ts⟩,type,pos,after,guard⟩)=(do let d ←Deferred.ofValue (a.eval g) (Cg.map a.eval);invoke d.target d.args):=rfl
    rw[e2,hrg]
    show (callFunc f ((g1++Cg.map a.eval)++d1)).run P w=_
    exact Gf hc
  ·cases hv
end
end Go.PM
namespace Go.PM
section
variable {H:aE}
theorem XL {lo:Nat} {H':aE} (h:Ext H.length H H'):Ext lo H H' :=
 ⟨h.len,fun b _ hl=>h.low b hl hl,h.liv⟩
theorem Jd {lo size bytes add:Nat} {x v:Value} {new:List Value} {H':aE} (h:eO lo size bytes x add new H=some (v,H')):Ext lo H H':=by
 unfold eO at h
 split at h
 case isFalse=>cases h
 split at h
 ·split at h
  ·split at h
   ·cases h;exact Ext.refl _ _
   ·split at h
    ·cases h;exact pI _ _ _
    ·cases h
  ·cases h
 ·split at h
  ·split at h
   ·split at h
    ·split at h
     ·cases h;exact Ext.refl _ _
     ·cases hw:aE.write H lo _ _ new with
      | none=>rw[hw] at h;cases h
      | some H1=>rw[hw] at h;cases h;exact DJ hw
    ·split at h
     ·split at h
      ·split at h
       ·rename_i ET
        cases h
        exact XC ET
       ·cases h
      ·cases h;exact pI _ _ _
     ·cases h
   ·cases h
  ·cases h
 ·cases h
theorem acE {lo size:Nat} {x v:Value} {l h' mx:Option Value} {H':aE} (h:Cq size x l h' mx H=some (v,H')):Ext lo H H':=by
 unfold Cq at h
 repeat' (split at h)
 all_goals first
  | (cases h;done)
  | (cases h;exact Ext.refl _ _)
  | (cases h;exact pI _ _ _)
theorem VY {lo:Nat} {po:nK} {ρ:Env} {v:Value} {H':aE} (h:pop lo po ρ H=some (.val v H')):Ext lo H H':=by
 by_cases iY:uB po=true
 ·rw[yM iY] at h
  obtain⟨_,rfl⟩:=DF h
  exact Ext.refl _ _
 cases po<;>first | exact absurd rfl iY | skip
 case load agg size p =>
  simp only[pop] at h
  cases hl:nM agg size (ev ρ p) H with
  | none=>rw[hl] at h;cases h
  | some u=>rw[hl] at h;cases h;exact Ext.refl _ _
 case sub size x l hh mx =>
  simp only[pop] at h
  cases hs:Cq size (ev ρ x) (l.map (ev ρ)) (hh.map (ev ρ)) (mx.map (ev ρ)) H with
  | none=>rw[hs] at h;cases h
  |
   some q =>
   obtain⟨u,H1⟩:=q
   rw[hs] at h;cases h;exact acE hs
 case b2s x =>
  simp only[pop] at h
  split at h
  ·cases h;exact Ext.refl _ _
  ·split at h
   ·rename_i cs _
    cases hb:tK cs with
    | none=>rw[hb] at h;cases h
    | some bs=>rw[hb] at h;cases h;exact Ext.refl _ _
   ·cases h
  ·cases h
 case new z=>cases h;exact pI _ _ _
 case box x =>
  simp only[pop] at h
  split at h
  ·cases h;exact pI _ _ _
  ·cases h
 case make z b l c =>
  simp only[pop] at h
  split at h
  ·split at h
   ·cases h;exact pI _ _ _
   ·cases h
  ·cases h
 case lit z n parts =>
  simp only[pop] at h
  split at h
  ·split at h
   ·cases h;exact pI _ _ _
   ·cases h
  ·cases h
 case call f args=>cases h
 case callv f args =>
  simp only[pop] at h
  split at h<;>cases h
 case store size p x =>
  simp only[pop] at h
  split at h
  ·rename_i b o _
   split at h
   ·cases hw:H.write lo b o (aO (ev ρ x)) with
    | none=>rw[hw] at h;cases h
    | some H1=>rw[hw] at h;cases h;exact DJ hw
   ·cases h
  ·cases h
 case app size bytes x y =>
  simp only[pop] at h
  split at h
  ·rename_i n _
   split at h
   ·rename_i new _
    cases ha:eO lo size bytes (ev ρ x) n new H with
    | none=>rw[ha] at h;cases h
    |
     some q =>
     obtain⟨u,H1⟩:=q
     rw[ha] at h;cases h;exact Jd ha
   ·cases h
  ·cases h
 case appz z bytes x n =>
  simp only[pop] at h
  split at h
  ·rename_i k _
   split at h
   ·cases ha:eO lo z.length bytes (ev ρ x) k.toNat (cZ k.toNat z) H with
    | none=>rw[ha] at h;cases h
    |
     some q =>
     obtain⟨u,H1⟩:=q
     rw[ha] at h;cases h;exact Jd ha
   ·cases h
  ·cases h
 case copy size x y =>
  simp only[pop] at h
  split at h
  ·cases h;exact Ext.refl _ _
  ·rename_i b o d _ s _ _
   split at h
   ·rename_i new _
    cases hw:H.write lo b o new with
    | none=>rw[hw] at h;cases h
    | some H1=>rw[hw] at h;cases h;exact DJ hw
   ·cases h
  ·cases h
 case clear z x =>
  simp only[pop] at h
  split at h
  ·cases h;exact Ext.refl _ _
  ·rename_i b o n _ _
   split at h
   ·cases h;exact Ext.refl _ _
   ·cases hw:H.write lo b o (cZ n z) with
    | none=>rw[hw] at h;cases h
    | some H1=>rw[hw] at h;cases h;exact DJ hw
  ·cases h
def rJ (call:gH):Prop:=∀f args lo H v H',call f args lo H=some (v,H')→Ext lo H H'
theorem Kx {call:gH} (hc:rJ call) {lo:Nat} {i:PI} {ρ:Env} {v:Value} {H':aE} (h:yS call lo i ρ H=some (v,H')):Ext lo H H':=by
 unfold yS at h
 split at h
 ·cases h
 ·cases h;exact Ext.refl _ _
 ·split at h
  ·split at h
   ·rename_i hp
    cases h
    exact VY hp
   ·rename_i f args _
    have:=hc _ _ _ _ _ _ h
    split at this
    ·exact XL this
    ·exact this
   ·cases h
  ·cases h
theorem xO {call:gH} {lo:Nat} {i:PI} {ρ bK:Env} {H':aE} (h:wZ call lo i ρ H=some (bK,H')):∃v,yS call lo i ρ H=some (v,H')∧bK=put ρ i.dst v:=by
 unfold wZ at h
 split at h
 ·rename_i v H1 hv
  cases h
  exact⟨v,hv,rfl⟩
 ·cases h
theorem HK {call:gH} (hc:rJ call) {lo:Nat} {i:PI} {ρ bK:Env} {H':aE} (h:wZ call lo i ρ H=some (bK,H')):Ext lo H H':=by
 obtain⟨v,h1,_⟩:=xO h
 exact Kx hc h1
theorem KX {call:gH} (hc:rJ call) {lo:Nat}:∀(is:List PI) {ρ bK:Env} {H H':aE},gR call lo is ρ H=some (bK,H')→Ext lo H H'
 | [],ρ,bK,H,H',h=>by cases h;exact Ext.refl _ _
 |
  i::is,ρ,bK,H,H',h=>by
  rw[gR] at h
  split at h
  ·rename_i h1
   exact(HK hc h1).trans (KX hc is h)
  ·cases h
theorem HL {lo:Nat} {body:Env→aE→Option (Ex×Env×aE)} (hb:∀ρ H x bK H',body ρ H=some (x,bK,H')→Ext lo H H'):∀(n:Nat) {ρ bK:Env} {H H':aE} {x:Ex},wY body n ρ H=some (x,bK,H')→Ext lo H H'
 | 0,_,_,_,_,_,h=>by cases h
 |
  n+1,ρ,bK,H,H',x,h=>by
  rw[wY] at h
  split at h
  ·rename_i h1
   exact(hb _ _ _ _ _ h1).trans (HL hb n h)
  ·exact hb _ _ _ _ _ h
theorem jI {call:gH} (hc:rJ call) {lo n:Nat}:∀(c:aD) {ρ bK:Env} {H H':aE} {x:Ex},dL call lo n c ρ H=some (x,bK,H')→Ext lo H H'
 | .skip,_,_,_,_,_,h=>by cases h;exact Ext.refl _ _
 |
  .dG ops,ρ,bK,H,H',x,h=>by
  rw[dL] at h
  cases hp:gR call lo ops ρ H with
  | none=>rw[hp] at h;cases h
  |
   some q =>
   obtain⟨wT,H1⟩:=q
   rw[hp] at h;cases h
   exact KX hc ops hp
 |
  .seq a b,ρ,bK,H,H',x,h=>by
  rw[dL] at h
  split at h
  ·rename_i h1
   exact(jI hc a h1).trans (jI hc b h)
  ·exact jI hc a h
 |
  .cond c a b,ρ,bK,H,H',x,h=>by
  rw[dL] at h
  split at h
  ·split at h
   ·exact jI hc a h
   ·exact jI hc b h
  ·cases h
 |
  .block id a,ρ,bK,H,H',x,h=>by
  rw[dL] at h
  split at h
  ·rename_i h1
   split at h<;>(cases h;exact jI hc a h1)
  ·exact jI hc a h
 |
  .loop a,ρ,bK,H,H',x,h=>by
  rw[dL] at h
  exact HL (fun ρ H x bK H' h=>jI hc a h) n h
 | .exit id,_,_,_,_,_,h=>by cases h;exact Ext.refl _ _
 | .ret,_,_,_,_,_,h=>by cases h;exact Ext.refl _ _
theorem D4 (E:AD) (T:Tab):∀n,rJ (mB E T n)
 | 0=>fun _ _ _ _ _ _ h=>by cases h
 |
  n+1=>fun f args lo H v H' h=>by
  rw[mB] at h
  split at h
  ·rename_i p _
   cases hp:p args H with
   | none=>rw[hp] at h;cases h
   | some u=>rw[hp] at h;cases h;exact Ext.refl _ _
  ·split at h
   ·cases h
   ·rename_i pf _
    split at h
    ·split at h
     ·rename_i wT H1 h1
      cases hr:qN pf.res wT H1 with
      | none=>rw[hr] at h;cases h
      | some u=>rw[hr] at h;cases h;exact jI (D4 E T n) _ h1
     ·rename_i wT H1 h1
      cases hr:qN pf.res wT H1 with
      | none=>rw[hr] at h;cases h
      | some u=>rw[hr] at h;cases h;exact jI (D4 E T n) _ h1
     ·cases h
    ·cases h
end
end Go.PM
namespace Go.PM
theorem D3 {α β:Type} {f:α→Option β}:∀ {l:List α} {ys:List β},l.mapM f=some ys→ys.length=l.length∧∀i (h:i<l.length),f l[i]=ys[i]?
 |
  [],ys,h=>by
  simp at h
  subst h
  exact⟨rfl,fun i h=>absurd h (by simp)⟩
 |
  x::l,ys,h=>by
  simp only[List.mapM_cons,Option.pure_def,Option.bind_eq_bind] at h
  cases h1:f x with
  | none=>rw[h1] at h;cases h
  |
   some y =>
   rw[h1] at h
   cases h2:l.mapM f with
   | none=>rw[h2] at h;cases h
   |
    some zs =>
    rw[h2] at h
    cases h
    obtain⟨k1,k2⟩:=D3 h2
    refine⟨by simp[k1],fun i hi => ?_⟩
    cases i with
    | zero=>simpa using h1
    | succ i=>simpa using k2 i (by simpa using hi)
theorem RX {α β:Type} {f:α→Option β} {l:List α} {ys:List β} (h:l.mapM f=some ys) {i:Nat} {x:α} (hx:l[i]? = some x):∃y,ys[i]? = some y∧f x=some y:=by
 obtain⟨h1,h2⟩:=D3 h
 obtain⟨bI,rfl⟩:=List.getElem?_eq_some_iff.1 hx
 have Kw:i<ys.length:=by omega
 refine⟨ys[i],List.getElem?_eq_getElem Kw,?_⟩
 rw[h2 i bI,List.getElem?_eq_getElem Kw]
def Ei (E:AD) (ops:List Oper) (M:List Nat) (i j:Nat) (pi pj:nK) (l:List (Operand×Operand)):Prop :=
 match fU E pi,fU E pj with
 | .look,.write | .write,.look=>ahead M i j=true∨∃a b,EV pi=some a∧EV pj=some b∧DW ops i j a=true∧(a,b)∈l
 | .write,.write | .quiet,.write | .write,.quiet=>ahead M i j=true
 | _,_=>True
theorem Ei.mono {E:AD} {ops:List Oper} {M:List Nat} {i j:Nat} {pi pj:nK} {l l':List (Operand×Operand)} (h:Ei E ops M i j pi pj l) (hl:∀x∈l,x∈l'):Ei E ops M i j pi pj l':=by
 unfold Ei at h ⊢
 split at h
 all_goals first
  | exact h
  | exact h.imp id fun⟨a,b,h1,h2,h3,h4⟩=>⟨a,b,h1,h2,h3,hl _ h4⟩
theorem Lh {E:AD} {ops:List Oper} {ps:List nK} {M:List Nat} {j:Nat} {pj:nK} {l:List (Operand×Operand)} (h:conflicts E ops ps M j pj=some l) :
  ∀i,i<j→∀pi,ps[i]? = some pi→Ei E ops M i j pi pj l:=by
 have key:∀(is:List Nat) (l:List (Operand×Operand)),(is.foldr (fun i acc=>match acc,ps[i]? with
  |
   some l,some pi =>
   match fU E pi,fU E pj with
   |
    .look,.write | .write,.look =>
    if ahead M i j then some l
    else match EV pi,EV pj with
     | some a,some b=>if DW ops i j a then some ((a,b)::l) else none
     | _,_=>none
   | .write,.write | .quiet,.write | .write,.quiet=>if ahead M i j then some l else none
   | _,_=>some l
  | _,_=>none) (some []))=some l→∀i∈is,∀pi,ps[i]? = some pi→Ei E ops M i j pi pj l:=by
  intro is
  induction is with
  | nil=>intro l _ i hi;cases hi
  |
   cons i0 is ih =>
   intro l h i hi pi XJ
   rw[List.foldr_cons] at h
   revert h
   generalize azB:is.foldr _ (some [])=acc
   intro h
   cases acc with
   | none=>cases h
   |
    some l0 =>
    have ih':=ih l0 azB
    cases hp0:ps[i0]? with
    | none=>rw[hp0] at h;cases h
    |
     some p0 =>
     rw[hp0] at h
     simp only at h
     have step:(∀x∈l0,x∈l)∧Ei E ops M i0 j p0 pj l:=by
      unfold Ei
      split at h
      ·rename_i c1 c2
       try rw[c1,c2]
       split at h
       ·rename_i ha;cases h;exact⟨fun x hx=>hx,.inl ha⟩
       ·split at h
        ·rename_i a b ta tb
         split at h
         ·rename_i hu;cases h;exact⟨fun x hx=>List.mem_cons_of_mem _ hx,.inr ⟨a,b,ta,tb,hu,List.mem_cons_self⟩⟩
         ·cases h
        ·cases h
      ·rename_i c1 c2
       try rw[c1,c2]
       split at h
       ·rename_i ha;cases h;exact⟨fun x hx=>hx,.inl ha⟩
       ·split at h
        ·rename_i a b ta tb
         split at h
         ·rename_i hu;cases h;exact⟨fun x hx=>List.mem_cons_of_mem _ hx,.inr ⟨a,b,ta,tb,hu,List.mem_cons_self⟩⟩
         ·cases h
        ·cases h
      ·rename_i c1 c2
       try rw[c1,c2]
       split at h
       ·rename_i ha;cases h;exact⟨fun x hx=>hx,ha⟩
       ·cases h
      ·rename_i c1 c2
       try rw[c1,c2]
       split at h
       ·rename_i ha;cases h;exact⟨fun x hx=>hx,ha⟩
       ·cases h
      ·rename_i c1 c2
       try rw[c1,c2]
       split at h
       ·rename_i ha;cases h;exact⟨fun x hx=>hx,ha⟩
       ·cases h
      ·cases h
       refine⟨fun x hx=>hx,?_⟩
       first | trivial | (split<;>first | trivial | (simp_all;done)) | (simp_all;done)
     rcases List.mem_cons.1 hi with rfl | hi
     ·rw[hp0] at XJ
      cases XJ
      exact step.2
     ·exact(ih' i hi pi XJ).mono step.1
 exact fun i hi pi XJ=>key _ l h i (List.mem_range.2 hi) pi XJ
structure acU (P:Program) (E:AD) (n:Nat) (ops:List Oper) (i:Nat) (o:Oper) (p:nK) (pi:PI):Prop where
 XO:pW P o.op=some p
 dst:pi.dst=o.dst
 op:pi.op=p
 guard:guardOf ops i o=some pi.g
 bound:∀d,o.dst=some d→d<n
structure P7 (E:AD) (ops:List Oper) (ps:List nK) (M:List Nat) (i:Nat) (o:Oper) (p:nK) (pi:PI):Prop where
 back:∀e∈o.after.toList,Region.binds .any e=true→e.on<i
 guard:∀j w,o.guard=some (j,w)→(M.getD i 0).testBit j=true
 OD:∀t∈o.dst.toList++wK ops o,∀k ok,ops[k]? = some ok→ok.dst=some t→k=i∨ahead M i k=true
 mask:M.getD i 0=wS o M
 quiet:pi.quiet=(match fU E p with | .quiet=>true | _=>false)
 apV:∀k,k<i→∀pk,ps[k]? = some pk→Ei E ops M k i pk p pi.cf
theorem Q3 {P:Program} {E:AD} {n:Nat} {ops:List Oper} {ps:List nK} {M:List Nat} {draw:Bool} {i:Nat} {pi:PI} (h:Uw E ops ps M n draw i=some pi) {o:Oper} {p:nK} (ho:ops[i]? = some o) (hp:ps[i]? = some p)
  (Wi:pW P o.op=some p):acU P E n ops i o p pi∧(draw=true→P7 E ops ps M i o p pi)∧(draw=false→pi.quiet=false∧pi.cf=[]):=by
 unfold Uw at h
 rw[ho,hp] at h
 simp only at h
 split at h
 case isFalse=>cases h
 rename_i hb
 have hbound:∀d,o.dst=some d→d<n:=by
  intro d hd
  rw[hd] at hb
  simpa[aiX] using hb
 split at h
 ·cases h
 ·rename_i g hg
  cases draw with
  |
   false =>
   simp only[Bool.false_eq_true,if_false] at h
   cases h
   exact⟨⟨Wi,rfl,rfl,hg,hbound⟩,(fun h=>by cases h),fun _=>⟨rfl,rfl⟩⟩
  |
   true =>
   simp only[if_true] at h
   split at h
   case isFalse=>cases h
   rename_i hc
   simp only[Bool.and_eq_true,beq_iff_eq] at hc
   obtain⟨⟨⟨c1,c2⟩,c3⟩,c4⟩:=hc
   cases Qp:conflicts E ops ps M i p with
   | none=>rw[Qp] at h;cases h
   |
    some cf =>
    rw[Qp] at h
    cases h
    refine⟨⟨Wi,rfl,rfl,hg,hbound⟩,fun _=>⟨fun e he hbd => ?_,fun j w hj => ?_,fun t ht k ok hk hkd => ?_,c4,rfl,Lh Qp⟩,(fun h=>by cases h)⟩
    ·have:=List.all_eq_true.1 c1 e he
     simpa[hbd] using this
    ·rw[hj] at c2
     exact c2
    ·have h1:=List.all_eq_true.1 c3 t ht
     have hk':k<ops.length:=(List.getElem?_eq_some_iff.1 hk).1
     have h2:=List.all_eq_true.1 h1 k (List.mem_range.2 hk')
     rw[hk] at h2
     simp only[Bool.or_eq_true,bne_iff_ne,ne_eq,beq_iff_eq] at h2
     rcases h2 with(h2 | h2) | h2
     ·exact absurd hkd h2
     ·exact .inl h2
     ·exact .inr h2
structure aiC (P:Program) (E:AD) (n:Nat) (ops:List Oper) (draw:Bool) (tE:List PI) (ps:List nK) (M:List Nat):Prop where
 D9:ps.length=ops.length
 auM:tE.length=ops.length
 each:∀i o,ops[i]? = some o→∃p pi,ps[i]? = some p∧tE[i]? = some pi∧acU P E n ops i o p pi∧(draw=true→P7 E ops ps M i o p pi)∧(draw=false→pi.quiet=false∧pi.cf=[])
theorem JR {P:Program} {E:AD} {n:Nat} {ops:Array Oper} {draw:Bool} {tE:List PI} (h:xW P E n ops draw=some tE):∃ps M,aiC P E n ops.toList draw tE ps M:=by
 unfold xW at h
 split at h
 ·rename_i ps hps
  simp only at h
  generalize (if draw=true then PC ops.toList [] else [])=M at h
  obtain⟨h1,h2⟩:=D3 hps
  obtain⟨h3,h4⟩:=D3 h
  refine⟨ps,M,h1,by simpa using h3,fun i o ho => ?_⟩
  have bI:=(List.getElem?_eq_some_iff.1 ho).1
  obtain⟨p,hp,Wi⟩:=RX hps ho
  have hr:(List.range ops.size)[i]? = some i:=by rw[List.getElem?_range];simpa using bI
  obtain⟨pi,XJ,hpp⟩:=RX h hr
  exact⟨p,pi,hp,XJ,Q3 hpp ho hp Wi⟩
 ·cases h
theorem Nn {o:Oper} {M:List Nat} {i:Nat} (h:(wS o M).testBit i=true):∃e∈o.after.toList,Region.binds .any e=true∧(e.on=i∨(M.getD e.on 0).testBit i=true):=by
 unfold wS at h
 revert h
 generalize o.after.toList=es
 induction es with
 | nil=>intro h;simp at h
 |
  cons e es ih =>
  intro h
  rw[List.foldr_cons] at h
  split at h
  ·rename_i hb
   rw[Nat.testBit_or,Nat.testBit_or,Bool.or_eq_true,Bool.or_eq_true] at h
   rcases h with(h | h) | h
   ·obtain⟨e',h1,h2⟩:=ih h
    exact⟨e',List.mem_cons_of_mem _ h1,h2⟩
   ·refine⟨e,List.mem_cons_self,hb,.inl ?_⟩
    rw[Nat.testBit_two_pow] at h
    simpa using h
   ·exact⟨e,List.mem_cons_self,hb,.inr h⟩
  ·obtain⟨e',h1,h2⟩:=ih h
   exact⟨e',List.mem_cons_of_mem _ h1,h2⟩
theorem Tt {ops:List Oper} {M:List Nat} {S:Nat→Prop} (hb:∀i o,ops[i]? = some o→∀e∈o.after.toList,Region.binds .any e=true→e.on<i) (hm:∀i o,ops[i]? = some o→M.getD i 0=wS o M)
  (hS:∀i o,ops[i]? = some o→S i→∀e∈o.after.toList,Region.binds .any e=true→S e.on):∀j o,ops[j]? = some o→(∀e∈o.after.toList,Region.binds .any e=true→S e.on)→∀i,(M.getD j 0).testBit i=true→S i:=by
 intro j
 induction j using Nat.strongRecOn with
 |
  _ j ih =>
  intro o ho hj i hi
  rw[hm j o ho] at hi
  obtain⟨e,he,hbd,h1⟩:=Nn hi
  rcases h1 with rfl | h1
  ·exact hj e he hbd
  ·have bI:=hb j o ho e he hbd
   have hjl:=(List.getElem?_eq_some_iff.1 ho).1
   have Vs:e.on<ops.length:=by omega
   exact ih e.on bI ops[e.on] (List.getElem?_eq_getElem Vs) (hS e.on _ (List.getElem?_eq_getElem Vs) (hj e he hbd)) i h1
end Go.PM
namespace Go.PM
def wU (P:Program) (L0:Nat) (call:gH):Prop :=
 ∀f args lo H v H',call f args lo H=some (v,H')→∀m w gO,Rel m L0 H w→L0≤lo→L0≤H.length→RL m args gO→(∀b,H.length≤b→b<H'.length→m b=none) →
  Ls P f∧Calls P f gO.toArray w fun e w'=>∃m' rv,e = .returned rv∧RV m' v rv∧Rel m' L0 H' w'∧Trans lo m H w m' H' w'
section
variable {P:Program} {m:dN} {L0:Nat} {H:aE} {w:World}
theorem tS {call:gH} {lo:Nat} {i:PI} {ρ:Env} {v:Value} {H':aE} (h:yS call lo i ρ H=some (v,H')) :
  (zP i.g ρ=some false∧v=undef∧H'=H) ∨
  (zP i.g ρ=some true∧i.cf.all (AR ρ)=true∧(pop lo i.op ρ H=some (.val v H') ∨
   ∃f args,pop lo i.op ρ H=some (.call f args)∧call f args (if i.quiet then H.length else lo) H=some (v,H'))):=by
 unfold yS at h
 split at h
 ·cases h
 ·rename_i hw;cases h;exact .inl ⟨hw,rfl,rfl⟩
 ·rename_i hw
  split at h
  ·rename_i Qp
   refine .inr ⟨hw,Qp,?_⟩
   split at h
   ·rename_i hp;cases h;exact .inl hp
   ·rename_i f args hp;exact .inr ⟨f,args,hp,h⟩
   ·cases h
  ·cases h
theorem XM {t:Array Value} {d:Nat} {b:Bool} (h:t.getD d undef = .bool b):t[d]? = some (.bool b):=by
 rcases Nat.lt_or_ge d t.size with hd | hd
 ·simp[hd] at h ⊢
  exact h
 ·simp[Array.getElem?_eq_none hd,undef] at h
theorem E4 {ops:Array Oper} {i:Nat} {o:Oper} {g:Option (Nat×Bool)} {ρ:Env} {a:Act} {t:Bool} (hg:guardOf ops.toList i o=some g) (hw:zP g ρ=some t)
  (hr:∀d∈wK ops.toList o,RV m (ρ d) (a.tmps.getD d undef)):Region.wanted o (yielded ops a.tmps)=t:=by
 unfold guardOf at hg
 unfold Region.wanted
 cases hgd:o.guard with
 |
  none =>
  rw[hgd] at hg
  cases hg
  cases hw
  rfl
 |
  some jw =>
  obtain⟨j,want⟩:=jw
  rw[hgd] at hg
  simp only at hg
  split at hg
  ·split at hg
   ·rename_i d hd
    cases hg
    have KI:d∈wK ops.toList o:=by
     unfold wK
     rw[hgd]
     simp only[List.mem_append]
     right
     rw[hd]
     simp
    have VJ:=hr d KI
    simp only[zP] at hw
    split at hw
    ·rename_i b hb
     cases hw
     rw[hb] at VJ
     generalize hx:a.tmps.getD d undef=x at VJ
     cases VJ
     have hy:yielded ops a.tmps j=some b:=by
      unfold yielded
      have XY:(ops[j]?).bind (·.dst)=some d:=by simpa using hd
      rw[XY,Option.bind_some,XM hx]
     simp only[hy]
     cases b<;>cases want<;>rfl
    ·rename_i vs hb
     cases hw
     rw[hb] at VJ
     generalize hx:a.tmps.getD d undef=x at VJ
     obtain⟨ws,rfl⟩:∃ws,x = .tuple ws:=by cases VJ;exact⟨_,rfl⟩
     have XY:(ops[j]?).bind (·.dst)=some d:=by simpa using hd
     have hy:yielded ops a.tmps j=none:=by
      unfold yielded
      rw[XY,Option.bind_some]
      rcases Nat.lt_or_ge d a.tmps.size with bI | bI
      ·have:a.tmps[d]? = some (.tuple ws):=by rw[←hx];simp[bI]
       rw[this]
      ·rw[Array.getElem?_eq_none bI]
     simp only[hy]
     rfl
    ·cases hw
   ·cases hg
  ·cases hg
theorem abE {E:AD} {p:nK} {lo gP:Nat} {ρ:Env} (h:fU E p = .quiet):pop lo p ρ H=pop gP p ρ H:=by
 cases p<;>first | rfl | (simp[fU] at h;done)
theorem Em {ops:List Oper} {o:Oper} {t:Nat} (h:Operand.tmp t∈o.op.operands):t∈wK ops o:=by
 unfold wK tmpsOf
 rw[List.mem_append]
 left
 rw[List.mem_filterMap]
 exact⟨.tmp t,by simpa using h,rfl⟩
theorem Lg {op:Op} {p:nK} (h:pW P op=some p):∀x∈op.operands,O3 x=true:=by
 intro x hx
 unfold pW at h
 split at h
 ·rename_i lE
  obtain⟨i,hi,rfl⟩:=Array.getElem_of_mem hx
  exact Array.all_eq_true.1 lE i hi
 ·cases h
theorem O7 {E:AD} {n lo k:Nat} {ops:Array Oper} {o:Oper} {p:nK} {pi:PI} {call:gH} {ρ:Env} {v:Value} {H':aE} {a:Act} {K:Act→World→Prop} {Q:Exit→Act→World→Prop} (ho:ops[k]? = some o) (DI:acU P E n ops.toList k o p pi)
  (hq:pi.quiet=true→fU E p = .quiet) (hv:yS call lo pi ρ H=some (v,H')) (hr:∀t∈wK ops.toList o,RV m (ρ t) (a.tmps.getD t undef)) (hR:Rel m L0 H w) (dK:L0≤lo) (hlen:L0≤H.length)
  (hf:∀b,H.length≤b→b<H'.length→m b=none) (nT:wU P L0 call)
  (hK:∀m' rv w',RV m' v rv→Rel m' L0 H' w'→Trans (if pi.quiet then H.length else lo) m H w m' H' w'→K (a.put o.dst rv) w'):wpOp P ops Q k K a w:=by
 have hro:∀x∈o.op.operands,RV m (ev ρ x) (a.eval x):=fun x hx=>UE (Lg DI.XO x hx) fun t ht=>hr t (Em (ht▸hx))
 unfold wpOp
 rw[ho]
 simp only
 rcases tS hv with⟨hw,rfl,rfl⟩ | ⟨hw,_,hp | ⟨f,args,hp,hc⟩⟩
 ·rw[E4 DI.guard hw hr]
  simp only[Bool.false_eq_true,if_false]
  exact hK m undef w (RV.undef m) hR (Trans.refl _ m _ w)
 ·rw[E4 DI.guard hw hr]
  simp only[if_true]
  left
  rw[DI.op] at hp
  have hs:cQ P (execOp a.eval o) L0 (if pi.quiet then H.length else lo) m H w v H':=by
   split
   ·rename_i hqq
    rw[abE (gP:=H.length) (hq hqq)] at hp
    exact Ws DI.XO hp hro hR hlen hf
   ·exact Ws DI.XO hp hro hR dK hf
  obtain⟨rv,w',m',oT,h1,h2,h3⟩:=hs
  unfold Oper.wp
  rcases oT with oT | ⟨oT,rfl⟩
  ·rw[oT]
   exact hK m' rv w' h1 h2 h3
  ·rw[oT]
   exact hK m' undef w' h1 h2 h3
 ·rw[E4 DI.guard hw hr]
  simp only[if_true]
  left
  rw[DI.op] at hp
  have arH:L0≤(if pi.quiet then H.length else lo):=by split<;>assumption
  obtain⟨gO,S5,arM⟩:=Yd DI.XO hp hro
  have oT:=arM (nT f args _ H v H' hc m w gO hR arH hlen S5 hf).1
  unfold Oper.wp
  rw[oT w]
  show Calls P f gO.toArray w _
  refine(nT f args _ H v H' hc m w gO hR arH hlen S5 hf).2.mono ?_
  rintro e w' ⟨m',rv,rfl,h1,h2,h3⟩
  exact hK m' rv w' h1 h2 h3
end
end Go.PM
namespace Go.PM
theorem F4 {call:gH} {lo:Nat}:∀ {tE:List PI} {ρ bK:Env} {H H':aE},gR call lo tE ρ H=some (bK,H') →
  ∃st:Nat→Env×aE,st 0=(ρ,H)∧st tE.length=(bK,H')∧∀i pi,tE[i]? = some pi→wZ call lo pi (st i).1 (st i).2=some (st (i+1))
 |
  [],ρ,bK,H,H',h=>by
  cases h
  exact⟨fun _=>(ρ,H),rfl,rfl,fun i pi hi=>by simp at hi⟩
 |
  x::tE,ρ,bK,H,H',h=>by
  rw[gR] at h
  split at h
  ·rename_i wT H1 h1
   obtain⟨st,h2,h3,h4⟩:=F4 h
   refine⟨fun i=>match i with | 0=>(ρ,H) | i+1=>st i,rfl,h3,fun i pi hi => ?_⟩
   cases i with
   |
    zero =>
    simp at hi
    subst hi
    show wZ call lo x ρ H=some (st 0)
    rw[h1,h2]
   | succ i=>exact h4 i pi (by simpa using hi)
  ·cases h
theorem iT {H1 H2:aE} {b:Nat} (h:H2[b]? = H1[b]?):Live H2 b↔Live H1 b:=by
 unfold Live
 rw[h]
theorem Rel.restrict {m:dN} {L0:Nat} {H1 H2:aE} {w:World} (h:Rel m L0 H2 w) (hs:∀b,b<H1.length→H2[b]? = H1[b]?):Rel m L0 H1 w:=by
 refine⟨h.valid,fun b l cs e p hm hb=>h.row b l cs e p hm ?_,fun b1 b2 l1 l2 hb h1 h2 Ct FF=>h.inj b1 b2 l1 l2 hb h1 h2 ((iT (hs b1 Ct.lt)).2 Ct) ((iT (hs b2 FF.lt)).2 FF),fun x hx=>⟨(h.Db x hx).1,fun b l hb hm hl=>(h.Db x hx).2 b l hb hm ((iT (hs b hl.lt)).2 hl)⟩⟩
 rw[hs b (List.getElem?_eq_some_iff.1 hb).1]
 exact hb
theorem Rel.grow {m:dN} {L0:Nat} {H1 H2:aE} {w:World} (h:Rel m L0 H1 w) (hs:∀b,b<H1.length→H2[b]? = H1[b]?) (hd:∀b,H1.length≤b→b<H2.length→m b=none):Rel m L0 H2 w:=by
 have lt:∀b l,m b=some l→b<H2.length→b<H1.length:=fun b l hm hb=>by
  rcases Nat.lt_or_ge b H1.length with h | h
  ·exact h
  ·rw[hd b h hb] at hm;cases hm
 refine⟨h.valid,fun b l cs e p hm hb=>h.row b l cs e p hm ?_,fun b1 b2 l1 l2 hb h1 h2 Ct FF=>h.inj b1 b2 l1 l2 hb h1 h2 ((iT (hs b1 (lt b1 l1 h1 Ct.lt))).1 Ct) ((iT (hs b2 (lt b2 l2 h2 FF.lt))).1 FF),fun x hx=>⟨(h.Db x hx).1,fun b l hb hm hl=>(h.Db x hx).2 b l hb hm ((iT (hs b (lt b l hm hl.lt))).1 hl)⟩⟩
 rw[←hs b (lt b l hm (List.getElem?_eq_some_iff.1 hb).1)]
 exact hb
structure Text (P:Program) (E:AD) (n:Nat) (ops:Array Oper) (tE:List PI) (ps:List nK) (M:List Nat) (call:gH) (lo:Nat) (st:Nat→Env×aE):Prop where
 ok:aiC P E n ops.toList true tE ps M
 ext:rJ call
 step:∀i pi,tE[i]? = some pi→wZ call lo pi (st i).1 (st i).2=some (st (i+1))
section
variable {P:Program} {E:AD} {n:Nat} {ops:Array Oper} {tE:List PI} {ps:List nK} {M:List Nat} {call:gH} {lo:Nat} {st:Nat→Env×aE}
theorem Text.at (T:Text P E n ops tE ps M call lo st) {i:Nat} (hi:i<ops.size):∃o p pi,ops[i]? = some o∧ps[i]? = some p∧tE[i]? = some pi∧acU P E n ops.toList i o p pi∧P7 E ops.toList ps M i o p pi ∧
  ∃v,yS call lo pi (st i).1 (st i).2=some (v,(st (i+1)).2)∧(st (i+1)).1=put (st i).1 o.dst v:=by
 have ho:ops.toList[i]? = some ops[i]:=by simp[hi]
 obtain⟨p,pi,h1,h2,h3,h4,_⟩:=T.ok.each i _ ho
 obtain⟨v,h5,h6⟩:=xO (T.step i pi h2)
 exact⟨ops[i],p,pi,by simp[hi],h1,h2,h3,h4 rfl,v,h5,by rw[h6,h3.dst]⟩
theorem Text.arP (T:Text P E n ops tE ps M call lo st) {i:Nat} (hi:i<ops.size):(st i).2.length≤(st (i+1)).2.length:=by
 obtain⟨o,p,pi,_,_,_,_,_,v,hv,_⟩:=T.at hi
 exact(Kx T.ext hv).len
theorem Text.len (T:Text P E n ops tE ps M call lo st) {i:Nat}:∀ {j:Nat},i≤j→j≤ops.size→(st i).2.length≤(st j).2.length:=by
 intro j PY
 induction j with
 | zero =>
    intro _;have:i=0:=by omega
    subst this;exact Nat.le_refl _
 |
  succ j ih =>
  intro hj
  rcases Nat.lt_or_ge i (j+1) with h | h
  ·exact Nat.le_trans (ih (by omega) (by omega)) (T.arP (by omega))
  ·have:i=j+1:=by omega
   subst this;exact Nat.le_refl _
theorem Text.arK (T:Text P E n ops tE ps M call lo st) {i:Nat} {p:nK} (hi:i<ops.size) (hp:ps[i]? = some p) (hw:fU E p ≠ .write):∀b,b<(st i).2.length→(st (i+1)).2[b]? = (st i).2[b]? := by
 intro b hb
 obtain⟨o,p',pi,_,Cs,_,DI,XS,v,hv,_⟩:=T.at hi
 rw[hp] at Cs
 cases Cs
 rcases tS hv with⟨_,_,h⟩ | ⟨_,_,h | ⟨f,args,h1,h2⟩⟩
 ·rw[h]
 ·rw[DI.op] at h
  by_cases hq:fU E p = .quiet
  ·rw[abE (gP:=(st i).2.length) hq] at h
   exact(VY h).low b hb hb
  ·
   have:(st (i+1)).2=(st i).2:=by
    cases p<;>first
     | (exact absurd rfl hw)
     | (exact absurd rfl hq)
     | (rw[yM rfl] at h;exact(DF h).2)
     | skip
    case load agg size q =>
     simp only[pop] at h
     cases hl:nM agg size (ev (st i).1 q) (st i).2 with
     | none=>rw[hl] at h;cases h
     | some u=>rw[hl] at h;injection h with h;injection h with _ h;exact h.symm
    case b2s x =>
     simp only[pop] at h
     split at h
     ·injection h with h;injection h with _ h;exact h.symm
     ·split at h
      ·rename_i cs _
       cases hb:tK cs with
       | none=>rw[hb] at h;cases h
       | some bs=>rw[hb] at h;injection h with h;injection h with _ h;exact h.symm
      ·cases h
     ·cases h
    case sub size x l hh mx =>
     simp only[pop] at h
     cases mx with
     | some mx=>exact absurd rfl hq
     |
      none =>
      cases hs:Cq size (ev (st i).1 x) (l.map (ev (st i).1)) (hh.map (ev (st i).1)) ((none:Option Operand).map (ev (st i).1)) (st i).2 with
      | none=>rw[hs] at h;cases h
      |
       some q =>
       obtain⟨u,H1⟩:=q
       rw[hs] at h
       injection h with h;injection h with _ h
       subst h
       unfold Cq at hs
       simp only[Option.map_none,Option.isSome_none,Bool.false_eq_true,false_and,if_false] at hs
       repeat' (split at hs)
       all_goals first
        | (cases hs;done)
        | (injection hs with hs;injection hs with _ hs;exact hs.symm)
    case call f args=>cases h
   rw[this]
 ·rw[DI.op] at h1
  have hq:pi.quiet=true:=by
   rw[XS.quiet]
   rcases rY h1 with⟨g,as,rfl⟩ | ⟨g,as,rfl⟩
   ·simp only[fU] at hw ⊢
    split at hw
    ·exact absurd rfl hw
    ·rename_i h;rw[if_neg h]
   ·rfl
  rw[hq] at h2
  exact(T.ext _ _ _ _ _ _ h2).low b hb hb
end
end Go.PM
namespace Go.PM
theorem DH {H H':aE} {lo b o:Nat} {new:List Value} (h:H.write lo b o new=some H') {b':Nat} (hb:b'≠b):H'[b']? = H[b']? := by
 obtain⟨cs,e,p,h1,h2,h3,h4,rfl⟩:=Bp h
 exact List.getElem?_set_ne (Ne.symm hb)
theorem Jr {H H':aE} {lo size bytes add:Nat} {x v:Value} {new:List Value} (h:eO lo size bytes x add new H=some (v,H')) {b':Nat} (hb:iX x≠some b') (bI:b'<H.length):H'[b']? = H[b']? := by
 unfold eO at h
 split at h
 case isFalse=>cases h
 split at h
 ·split at h
  ·split at h
   ·cases h;rfl
   ·split at h
    ·cases h;exact List.getElem?_append_left bI
    ·cases h
  ·cases h
 ·rename_i b o n c
  have fC:b'≠b:=fun e=>hb (by rw[e];rfl)
  split at h
  ·split at h
   ·split at h
    ·split at h
     ·cases h;rfl
     ·cases hw:aE.write H lo b (o+n*size) new with
      | none=>rw[hw] at h;cases h
      | some H1=>rw[hw] at h;cases h;exact DH hw fC
    ·split at h
     ·split at h
      ·split at h
       ·cases h
        rw[List.getElem?_append_left (by simpa using bI)]
        exact List.getElem?_set_ne (Ne.symm fC)
       ·cases h
      ·cases h;exact List.getElem?_append_left bI
     ·cases h
   ·cases h
  ·cases h
 ·cases h
theorem agZ {E:AD} {lo:Nat} {p:nK} {ρ:Env} {H H':aE} {v:Value} {x:Operand} (h:pop lo p ρ H=some (.val v H')) (hw:fU E p = .write) (ht:EV p=some x) {b':Nat} (hb:iX (ev ρ x)≠some b') (bI:b'<H.length):H'[b']? = H[b']? := by
 cases p<;>first | (cases ht;done) | (cases hw;done) | skip
 case sub size y l hh mx=>cases mx<;>cases hw
 case store size q y =>
  cases ht
  simp only[pop] at h
  split at h
  ·rename_i b o he
   rw[he] at hb
   have fC:b'≠b:=fun e=>hb (by rw[e];rfl)
   split at h
   ·cases hw:H.write lo b o (aO (ev ρ y)) with
    | none=>rw[hw] at h;cases h
    | some H1=>rw[hw] at h;cases h;exact DH hw fC
   ·cases h
  ·cases h
 case app size bytes y z =>
  cases ht
  simp only[pop] at h
  split at h
  ·rename_i n _
   split at h
   ·rename_i new _
    cases ha:eO lo size bytes (ev ρ x) n new H with
    | none=>rw[ha] at h;cases h
    |
     some q =>
     obtain⟨u,H1⟩:=q
     rw[ha] at h;cases h;exact Jr ha hb bI
   ·cases h
  ·cases h
 case appz z bytes y n =>
  cases ht
  simp only[pop] at h
  split at h
  ·rename_i k _
   split at h
   ·cases ha:eO lo z.length bytes (ev ρ x) k.toNat (cZ k.toNat z) H with
    | none=>rw[ha] at h;cases h
    |
     some q =>
     obtain⟨u,H1⟩:=q
     rw[ha] at h;cases h;exact Jr ha hb bI
   ·cases h
  ·cases h
 case copy size y z =>
  cases ht
  simp only[pop] at h
  split at h
  ·cases h;rfl
  ·rename_i b o d _ s he _
   rw[he] at hb
   have fC:b'≠b:=fun e=>hb (by rw[e];rfl)
   split at h
   ·rename_i new _
    cases hw:H.write lo b o new with
    | none=>rw[hw] at h;cases h
    | some H1=>rw[hw] at h;cases h;exact DH hw fC
   ·cases h
  ·cases h
 case clear z y =>
  cases ht
  simp only[pop] at h
  split at h
  ·cases h;rfl
  ·rename_i b o n _ he
   rw[he] at hb
   have fC:b'≠b:=fun e=>hb (by rw[e];rfl)
   split at h
   ·cases h;rfl
   ·cases hw:H.write lo b o (cZ n z) with
    | none=>rw[hw] at h;cases h
    | some H1=>rw[hw] at h;cases h;exact DH hw fC
  ·cases h
theorem Qb {H:aE} {b o n:Nat} {cs:List Value} (h:H.read b o n=some cs):b<H.length:=by
 unfold aE.read at h
 split at h
 ·rename_i hb;exact(List.getElem?_eq_some_iff.1 hb).1
 ·cases h
theorem FK {H H2:aE} {b o n:Nat} (h:H2[b]? = H[b]?):H2.read b o n=H.read b o n:=by
 unfold aE.read
 rw[h]
theorem To {agg:Bool} {size:Nat} {x v:Value} {H H2:aE} (h:nM agg size x H=some v) (hb:∀b,iX x=some b→b<H.length→H2[b]? = H[b]?):nM agg size x H2=some v:=by
 unfold nM at h ⊢
 split at h
 ·rename_i b o
  have bI:b<H.length:=by
   split at h
   ·cases hr:H.read b o size with
    | none=>rw[hr] at h;cases h
    | some cs=>exact Qb hr
   ·cases hr:H.read b o 1 with
    | none=>rw[hr] at h;cases h
    | some cs=>exact Qb hr
  have e:=hb b rfl bI
  simp only[FK e]
  exact h
 ·cases h
theorem Sx {E:AD} {lo:Nat} {p:nK} {ρ:Env} {H H' H2:aE} {v:Value} (h:pop lo p ρ H=some (.val v H')) (hc:fU E p = .look) (hb:∀x,EV p=some x→∀b,iX (ev ρ x)=some b→b<H.length→H2[b]? = H[b]?) :
  H'=H∧pop lo p ρ H2=some (.val v H2):=by
 cases p<;>first | (cases hc;done) | skip
 case call f args=>simp only[fU] at hc;split at hc<;>cases hc
 case load agg size q =>
  simp only[pop] at h ⊢
  cases hl:nM agg size (ev ρ q) H with
  | none=>rw[hl] at h;cases h
  |
   some u =>
   rw[hl] at h
   cases h
   refine⟨rfl,?_⟩
   rw[To hl (hb q rfl)]
   rfl
 case b2s x =>
  simp only[pop] at h ⊢
  split at h
  ·cases h;exact⟨rfl,rfl⟩
  ·rename_i b o n _ he
   split at h
   ·rename_i cs hr
    cases hbs:tK cs with
    | none=>rw[hbs] at h;cases h
    |
     some bs =>
     rw[hbs] at h
     cases h
     refine⟨rfl,?_⟩
     have e:=hb x rfl b (by rw[he];rfl) (Qb hr)
     rw[FK e,hr]
     simp only[hbs]
     rfl
   ·cases h
  ·cases h
 case sub size x l hh mx =>
  cases mx with
  | some mx=>cases hc
  |
   none =>
   simp only[pop] at h ⊢
   cases hs:Cq size (ev ρ x) (l.map (ev ρ)) (hh.map (ev ρ)) ((none:Option Operand).map (ev ρ)) H with
   | none=>rw[hs] at h;cases h
   |
    some q =>
    obtain⟨u,H1⟩:=q
    rw[hs] at h
    cases h
    have uJ:=hb x rfl
    generalize ev ρ x=xv at hs uJ
    have key:H1=H∧Cq size xv (l.map (ev ρ)) (hh.map (ev ρ)) ((none:Option Operand).map (ev ρ)) H2=some (u,H2):=by
     unfold Cq at hs ⊢
     simp only[Option.map_none,Option.isSome_none,Bool.false_eq_true,false_and,if_false] at hs ⊢
     split at hs
     ·repeat' (split at hs)
      all_goals first | (cases hs;done) | skip
      cases hs
      simp_all
     ·rename_i b o n c
      split at hs
      ·rename_i cs e p kD
       have e1:=uJ b rfl (List.getElem?_eq_some_iff.1 kD).1
       rw[e1,kD]
       simp only
       repeat' (split at hs)
       all_goals first | (cases hs;done) | skip
       cases hs
       simp_all
      ·cases hs
     ·cases hs
    rw[key.2]
    exact⟨key.1,rfl⟩
section
variable {P:Program} {E:AD} {n:Nat} {ops:Array Oper} {tE:List PI} {ps:List nK} {M:List Nat} {call:gH} {lo:Nat} {st:Nat→Env×aE}
theorem Text.Z3 (T:Text P E n ops tE ps M call lo st) {i:Nat}:∀ {j:Nat},i≤j→j≤ops.size→Ext lo (st i).2 (st j).2:=by
 intro j PY
 induction j with
 | zero =>
    intro _;have:i=0:=by omega
    subst this;exact Ext.refl _ _
 |
  succ j ih =>
  intro hj
  rcases Nat.lt_or_ge i (j+1) with h | h
  ·obtain⟨o,p,pi,_,_,_,_,_,v,hv,_⟩:=T.at (i:=j) (by omega)
   exact(ih (by omega) (by omega)).trans (Kx T.ext hv)
  ·have:i=j+1:=by omega
   subst this;exact Ext.refl _ _
theorem Text.ZJ (T:Text P E n ops tE ps M call lo st) {i:Nat}:∀ {j:Nat},i≤j→j≤ops.size→∀b,b<(st i).2.length →
  (∀k,i≤k→k<j→∀p pi,ps[k]? = some p→tE[k]? = some pi→fU E p = .write→zP pi.g (st k).1=some true→∃x,EV p=some x∧iX (ev (st k).1 x)≠some b) →
  (st j).2[b]? = (st i).2[b]? := by
 intro j PY
 induction j with
 | zero =>
      intro _ b _ _;have:i=0:=by omega
      subst this;rfl
 |
  succ j ih =>
  intro hj b hb hk
  rcases Nat.lt_or_ge i (j+1) with h | h
  ·have bI:b<(st j).2.length:=Nat.lt_of_lt_of_le hb (T.len (by omega) (by omega))
   have h1:(st (j+1)).2[b]? = (st j).2[b]? := by
    obtain⟨o,p,pi,_,hp,XJ,DI,_,v,hv,_⟩:=T.at (i:=j) (by omega)
    by_cases hw:fU E p = .write
    ·rcases tS hv with⟨_,_,h⟩ | ⟨hwt,_,h | ⟨f,args,h1,h2⟩⟩
     ·rw[h]
     ·rw[DI.op] at h
      obtain⟨x,hx,fC⟩:=hk j (by omega) (by omega) p pi hp XJ hw hwt
      exact agZ h hw hx fC bI
     ·rw[DI.op] at h1
      obtain⟨x,hx,fC⟩:=hk j (by omega) (by omega) p pi hp XJ hw hwt
      rcases rY h1 with⟨g,as,rfl⟩ | ⟨g,as,rfl⟩<;>cases hx
    ·exact T.arK (by omega) hp hw b bI
   rw[h1]
   exact ih (by omega) (by omega) b hb fun k hk1 Zm=>hk k hk1 (by omega)
  ·have:i=j+1:=by omega
   subst this;rfl
theorem Text.same (T:Text P E n ops tE ps M call lo st) {i j:Nat} (PY:i≤j) (hj:j≤ops.size) (hk:∀k,i≤k→k<j→∀p,ps[k]? = some p→fU E p ≠ .write):∀b,b<(st i).2.length→(st j).2[b]? = (st i).2[b]? :=
 fun b hb=>T.ZJ PY hj b hb fun k h1 h2 p _ hp _ hw _=>absurd hw (hk k h1 h2 p hp)
theorem Text.P9 (T:Text P E n ops tE ps M call lo st) {i t:Nat}:∀ {j:Nat},i≤j→j≤ops.size→(∀k o,i≤k→k<j→ops[k]? = some o→o.dst≠some t)→(st j).1 t=(st i).1 t:=by
 intro j PY
 induction j with
 | zero =>
      intro _ _;have:i=0:=by omega
      subst this;rfl
 |
  succ j ih =>
  intro hj hk
  rcases Nat.lt_or_ge i (j+1) with h | h
  ·obtain⟨o,p,pi,ho,hp,XJ,DI,_,v,hv,he⟩:=T.at (i:=j) (by omega)
   rw[he]
   have fC:=hk j o (by omega) (by omega) ho
   have h1:put (st j).1 o.dst v t=(st j).1 t:=by
    cases hd:o.dst with
    | none=>rfl
    |
     some d =>
     rw[hd] at fC
     show (if t=d then v else _)=_
     rw[if_neg (fun e=>fC (by rw[e]))]
   rw[h1]
   exact ih (by omega) (by omega) fun k o hk1 Zm=>hk k o hk1 (by omega)
  ·have:i=j+1:=by omega
   subst this;rfl
end
end Go.PM
namespace Go.PM
theorem wX {M:List Nat} {i j:Nat} (h:i<j):ahead M i j=(M.getD j 0).testBit i:=by
 unfold ahead
 have e1:Nat.max i j=j:=Nat.max_eq_right (by omega)
 have e2:Nat.min i j=i:=Nat.min_eq_left (by omega)
 rw[e1,e2]
theorem abF {M:List Nat} {i j:Nat} (h:j<i):ahead M i j=(M.getD i 0).testBit j:=by
 unfold ahead
 have e1:Nat.max i j=i:=Nat.max_eq_left (by omega)
 have e2:Nat.min i j=j:=Nat.min_eq_right (by omega)
 rw[e1,e2]
theorem SQ {a:Act} {d t:Nat} {v:Value} (hd:d<a.tmps.size):(a.put (some d) v).tmps.getD t undef=if t=d then v else a.tmps.getD t undef:=by
 show (a.tmps.setIfInBounds d v).getD t undef=_
 rcases Nat.lt_or_ge t a.tmps.size with h | h
 ·by_cases e:t=d
  ·subst e;simp[h]
  ·simp[h,e,Ne.symm e]
 ·have:t≠d:=by omega
  simp[h,this]
theorem FW (a:Act) (d:Option Nat) (v:Value):(a.put d v).tmps.size=a.tmps.size:=by
 cases d<;>simp[Act.put]
theorem FR (a:Act) (d:Option Nat) (v:Value):(a.put d v).defers=a.defers:=by
 cases d<;>rfl
section
variable {P:Program} {E:AD} {n:Nat} {ops:Array Oper} {tE:List PI} {ps:List nK} {M:List Nat} {call:gH} {lo L0:Nat} {st:Nat→Env×aE}
structure sR (E:AD) (n:Nat) (ops:Array Oper) (ps:List nK) (lo L0:Nat) (st:Nat→Env×aE) (m0:dN) (w0:World) (ds:List Deferred) (S:Nat→Prop) (m:dN) (c:Nat) (a:Act) (w:World):Prop where
 FY:a.tmps.size=n
 defs:a.defers=ds
 back:∀i o,ops.toList[i]? = some o→S i→∀e∈o.after.toList,Region.binds .any e=true→S e.on
 tm:∀t j,j≤ops.size→(∀i o,ops.toList[i]? = some o→o.dst=some t→(S i↔i<j))→RV m ((st j).1 t) (a.tmps.getD t undef)
 OS:c≤ops.size
 before:∀i p,i<c→ps[i]? = some p→fU E p = .write→S i
 atc:c<ops.size→¬S c∧∃p,ps[c]? = some p∧fU E p = .write
 rel:Rel m L0 (st c).2 w
 tr:Trans lo m0 (st 0).2 w0 m (st c).2 w
 Yy:∀b l,m b=some l→m0 b≠none∨∃i,S i∧i<ops.size∧(st i).2.length≤b∧b<(st (i+1)).2.length
theorem Text.anc (T:Text P E n ops tE ps M call lo st) {S:Nat→Prop} (hS:∀i o,ops.toList[i]? = some o→S i→∀e∈o.after.toList,Region.binds .any e=true→S e.on) {k:Nat} {o:Oper} (ho:ops.toList[k]? = some o)
  (hk:∀e∈o.after.toList,Region.binds .any e=true→S e.on) {i:Nat} (hi:(M.getD k 0).testBit i=true):S i :=
 Tt (fun i o hio=>by
   obtain⟨p,pi,_,_,_,hd,_⟩:=T.ok.each i o hio
   exact(hd rfl).back) (fun i o hio=>by
   obtain⟨p,pi,_,_,_,hd,_⟩:=T.ok.each i o hio
   exact(hd rfl).mask) hS k o ho hk i hi
theorem Text.Wa (T:Text P E n ops tE ps M call lo st) {i:Nat} {p:nK} (hi:i<ops.size) (hp:ps[i]? = some p) (h:fU E p = .pure∨fU E p = .look):(st (i+1)).2=(st i).2:=by
 obtain⟨o,p',pi,_,Cs,_,DI,XS,v,hv,_⟩:=T.at hi
 rw[hp] at Cs
 cases Cs
 rcases tS hv with⟨_,_,h'⟩ | ⟨_,_,h' | ⟨f,args,h1,h2⟩⟩
 ·exact h'
 ·rw[DI.op] at h'
  rcases h with h | h
  ·have:uB p=true:=by
    cases p<;>first | rfl | (cases h;done) | skip
    case sub s x l hh mx=>cases mx<;>cases h
    case call f as=>simp only[fU] at h;split at h<;>cases h
   rw[yM this] at h'
   exact(DF h').2
  ·exact(Sx h' h (fun _ _ _ _ _=>rfl)).1
 ·exfalso
  rw[DI.op] at h1
  rcases rY h1 with⟨g,as,rfl⟩ | ⟨g,as,rfl⟩
  ·simp only[fU] at h
   split at h<;>rcases h with h | h<;>cases h
  ·rcases h with h | h<;>cases h
theorem Xv {op:Op} {p:nK} {x:Operand} (h:pW P op=some p) (ht:EV p=some x):x∈op.operands:=by
 unfold pW at h
 split at h
 case isFalse=>cases h
 cases op with
 |
  load t q =>
  dsimp only at h
  cases hi:lY P t with
  | none=>rw[hi] at h;cases h
  | some u=>rw[hi] at h;cases h;cases ht;simp[Op.operands]
 |
  store t q v =>
  dsimp only at h
  cases hi:P.info? t with
  | none=>rw[hi] at h;cases h
  | some u=>rw[hi] at h;cases h;cases ht;simp[Op.operands]
 |
  slice t y l hh mx =>
  dsimp only at h
  split at h
  ·split at h
   ·cases h;cases ht
   ·cases h
  ·rename_i e _
   cases hi:lY P e with
   | none=>rw[hi] at h;cases h
   | some u=>rw[hi] at h;cases h;cases ht;simp[Op.operands]
  ·cases h
 |
  convert s d y =>
  dsimp only at h
  repeat' (split at h)
  all_goals first
   | (cases h;done)
   | (cases h;cases ht;done)
   | (cases h;cases ht;simp[Op.operands])
 |
  call c =>
  obtain⟨callee,args,ts⟩:=c
  cases callee with
  |
   builtin b =>
   simp only[oB] at h
   repeat' (split at h)
   all_goals first
    | (cases h;done)
    | (cases h;cases ht;done)
    | skip
   all_goals
    cases h
    cases ht
    have hm:x∈args.toList:=by simp_all
    simpa[Op.operands,Call.operands] using hm
  |
   value f =>
   cases f with
   | tmp g'=>cases h;cases ht
   | func g'=>cases h;cases ht
   | _=>cases h
  | invoke r s=>cases h
 |
  _ =>
  exfalso
  dsimp only at h
  try unfold BU at h
  repeat' (split at h)
  all_goals first
   | contradiction
   | (cases h;done)
   | (cases h;cases ht;done)
   | exact map_none h (by intro y h;cases h;cases ht)
end
end Go.PM
namespace Go.PM
theorem E7 (p:Nat→Prop):∀(d c N:Nat),N-c=d→c≤N→∃c',c≤c'∧c'≤N∧(∀i,c≤i→i<c'→¬p i)∧(c'<N→p c')
 | 0,c,N,hd,hc=>⟨c,Nat.le_refl _,hc,fun i h1 h2=>by omega,fun h=>by omega⟩
 |
  d+1,c,N,hd,hc=>by
  by_cases hp:p c
  ·exact⟨c,Nat.le_refl _,hc,fun i h1 h2=>by omega,fun _=>hp⟩
  ·obtain⟨c',h1,h2,h3,h4⟩:=E7 p d (c+1) N (by omega) (by omega)
   refine⟨c',by omega,h2,fun i hi1 J7 => ?_,h4⟩
   rcases Nat.lt_or_ge c i with h | h
   ·exact h3 i h J7
   ·have:i=c:=by omega
    subst this;exact hp
theorem YN {m:dN} {v r:Value} {b:Nat} (h:RV m v r) (hb:iX v=some b):∃l,m b=some l:=by
 cases h<;>first | (cases hb;done) | (cases hb;exact⟨_,by assumption⟩)
section
variable {P:Program} {E:AD} {n:Nat} {ops:Array Oper} {tE:List PI} {ps:List nK} {M:List Nat} {call:gH} {lo L0:Nat} {st:Nat→Env×aE}
 {m0:dN} {w0:World} {ds:List Deferred} {S:Nat→Prop} {m:dN} {c:Nat} {a:Act} {w:World} {k:Nat} {o:Oper} {p:nK} {pi:PI}
structure At (P:Program) (E:AD) (n:Nat) (ops:Array Oper) (tE:List PI) (ps:List nK) (M:List Nat) (S:Nat→Prop) (k:Nat) (o:Oper) (p:nK) (pi:PI):Prop where
 lt:k<ops.size
 eo:ops[k]? = some o
 ep:ps[k]? = some p
 epi:tE[k]? = some pi
 ok:acU P E n ops.toList k o p pi
 dr:P7 E ops.toList ps M k o p pi
 axP:¬S k
 anc:∀i,(M.getD k 0).testBit i=true→S i
 desc:∀i,i<ops.size→S i→(M.getD i 0).testBit k=true→False
theorem At.ah (A:At P E n ops tE ps M S k o p pi) {i:Nat} (hi:i<ops.size) (h:i=k∨ahead M k i=true):S i↔i<k:=by
 rcases Nat.lt_trichotomy i k with h1 | h1 | h1
 ·refine⟨fun _=>h1,fun _ => ?_⟩
  rcases h with h | h
  ·omega
  ·rw[abF h1] at h;exact A.anc i h
 ·subst h1
  exact⟨fun h=>absurd h A.axP,fun h=>by omega⟩
 ·refine⟨fun hs => ?_,fun h=>by omega⟩
  rcases h with h | h
  ·omega
  ·rw[wX h1] at h;exact absurd h (fun h=>A.desc i hi hs h)
theorem FA {i:Nat} {oi:Oper} (h:ops.toList[i]? = some oi):i<ops.size:=by
 have:=(List.getElem?_eq_some_iff.1 h).1
 simpa using this
theorem At.reads (A:At P E n ops tE ps M S k o p pi) (I:sR E n ops ps lo L0 st m0 w0 ds S m c a w):∀t∈wK ops.toList o,RV m ((st k).1 t) (a.tmps.getD t undef):=by
 intro t ht
 refine I.tm t k (Nat.le_of_lt A.lt) fun i oi hi hd => ?_
 exact A.ah (FA hi) (A.dr.OD t (List.mem_append_right _ ht) i oi hi hd)
theorem At.operand (A:At P E n ops tE ps M S k o p pi) (I:sR E n ops ps lo L0 st m0 w0 ds S m c a w) {x:Operand} (hx:x∈o.op.operands):RV m (ev (st k).1 x) (a.eval x) :=
 UE (Lg A.ok.XO x hx) fun t ht=>A.reads I t (Em (ht▸hx))
theorem At.pair (T:Text P E n ops tE ps M call lo st) {i j:Nat} {p q:nK} (PY:i<j) (hj:j<ops.size) (hp:ps[i]? = some p) (hq:ps[j]? = some q):∃qi,tE[j]? = some qi∧Ei E ops.toList M i j p q qi.cf:=by
 obtain⟨o,q',qi,_,M7,YV,_,hd,_⟩:=T.at hj
 rw[hq] at M7
 cases M7
 exact⟨qi,YV,hd.apV i PY p hp⟩
theorem sR.late (T:Text P E n ops tE ps M call lo st) (I:sR E n ops ps lo L0 st m0 w0 ds S m c a w) {i:Nat} {q:nK} (hi:c<i) (hn:i<ops.size) (hS:S i) (hq:ps[i]? = some q):fU E q = .pure∨fU E q = .look:=by
 obtain⟨hcS,pc,hpc,UY⟩:=I.atc (by omega)
 obtain⟨qi,_,jH⟩:=At.pair T hi hn hpc hq
 unfold Ei at jH
 rw[UY] at jH
 obtain⟨oi,_,_,hoi,_⟩:=T.at hn
 have Re:ops.toList[i]? = some oi:=by simpa using hoi
 have fin:ahead M c i=true→False:=fun h=>by
  rw[wX hi] at h
  exact hcS (T.anc I.back Re (I.back i oi Re hS) h)
 cases oR:fU E q with
 | pure=>exact .inl rfl
 | look=>exact .inr rfl
 | quiet=>rw[oR] at jH;exact absurd jH fin
 | write=>rw[oR] at jH;exact absurd jH fin
theorem sR.OD (T:Text P E n ops tE ps M call lo st) (I:sR E n ops ps lo L0 st m0 w0 ds S m c a w) (A:At P E n ops tE ps M S k o p pi) {m':dN} {v rv:Value} (hm:∀b l,m b=some l→m' b=some l) (hv:RV m' v rv)
  (he:(st (k+1)).1=put (st k).1 o.dst v):∀t j,j≤ops.size→(∀i o,ops.toList[i]? = some o→o.dst=some t→((i=k∨S i)↔i<j))→RV m' ((st j).1 t) ((a.put o.dst rv).tmps.getD t undef):=by
 intro t j hj hw
 have DI:ops.toList[k]? = some o:=by simpa using A.eo
 cases hd:o.dst with
 |
  none =>
  show RV m' _ (a.tmps.getD t undef)
  refine(I.tm t j hj fun i oi hi hdi => ?_).mono hm
  have fC:i≠k:=fun e=>by subst e;rw[DI] at hi;cases hi;rw[hd] at hdi;cases hdi
  rw[←hw i oi hi hdi]
  simp[fC]
 |
  some d =>
  rw[SQ (by rw[I.FY];exact A.ok.bound d hd)]
  by_cases htd:t=d
  ·subst htd
   rw[if_pos rfl]
   have hkj:k<j:=(hw k o DI hd).1 (.inl rfl)
   have e1:(st j).1 t=(st (k+1)).1 t:=by
    refine T.P9 hkj hj fun i oi hi1 J7 hoi hdi => ?_
    have Re:ops.toList[i]? = some oi:=by simpa using hoi
    have hS:=(hw i oi Re hdi).2 J7
    have hik:i≠k:=by omega
    have:=(A.ah (FA Re) (A.dr.OD t (List.mem_append_left _ (by rw[hd];simp)) i oi Re hdi)).1 (hS.resolve_left hik)
    omega
   rw[e1,he,hd]
   show RV m' (if t=t then v else _) rv
   rw[if_pos rfl]
   exact hv
  ·rw[if_neg htd]
   refine(I.tm t j hj fun i oi hi hdi => ?_).mono hm
   have fC:i≠k:=fun e=>by subst e;rw[DI] at hi;cases hi;rw[hd] at hdi;cases hdi;exact htd rfl
   rw[←hw i oi hi hdi]
   simp[fC]
theorem sR.aaP (I:sR E n ops ps lo L0 st m0 w0 ds S m c a w) (A:At P E n ops tE ps M S k o p pi) (hr:∀e∈o.after.toList,Region.binds .any e=true→S e.on) :
  ∀i oi,ops.toList[i]? = some oi→(i=k∨S i)→∀e∈oi.after.toList,Region.binds .any e=true→(e.on=k∨S e.on):=by
 intro i oi hi hS e he hb
 rcases hS with rfl | hS
 ·have:ops.toList[i]? = some o:=by simpa using A.eo
  rw[this] at hi
  cases hi
  exact .inr (hr e he hb)
 ·exact .inr (I.back i oi hi hS e he hb)
theorem GI (T:Text P E n ops tE ps M call lo st) {i j:Nat} {x:Operand} (PY:i≤j) (hj:j≤ops.size) (h:DW ops.toList i j x=true):ev (st j).1 x=ev (st i).1 x:=by
 cases x with
 |
  tmp t =>
  refine T.P9 PY hj fun q oq h1 h2 hoq hd => ?_
  have lE:=List.all_eq_true.1 h oq (by
   have ayL:ops.toList[q]? = some oq:=by simpa using hoq
   rw[List.mem_iff_getElem?]
   refine⟨q-i,?_⟩
   rw[List.getElem?_drop,List.getElem?_take,show i+(q-i)=q by omega,if_pos h2,ayL])
  simp[hd] at lE
 | const v=>rfl
 | global g=>rfl
 | func f=>rfl
theorem sR.look (T:Text P E n ops tE ps M call lo st) (I:sR E n ops ps lo L0 st m0 w0 ds S m c a w) (A:At P E n ops tE ps M S k o p pi) (BA:∀b,(st 0).2.length≤b→b<(st ops.size).2.length→m0 b=none)
  (oR:fU E p = .pure∨fU E p = .look) {v:Value} (hv:yS call lo pi (st k).1 (st k).2=some (v,(st (k+1)).2)):yS call lo pi (st k).1 (st c).2=some (v,(st c).2):=by
 rcases tS hv with⟨hw,rfl,_⟩ | ⟨hw,Qp,hp | ⟨f,args,hp,_⟩⟩
 ·unfold yS
  rw[hw]
 ·unfold yS
  rw[hw]
  simp only[Qp,if_true]
  have key:pop lo pi.op (st k).1 (st c).2=some (.val v (st c).2):=by
   rw[A.ok.op] at hp ⊢
   rcases oR with oR | oR
   ·have hlp:uB p=true:=by
     cases p<;>first | rfl | (cases oR;done) | skip
     case sub s x l hh mx=>cases mx<;>cases oR
     case call f as=>simp only[fU] at oR;split at oR<;>cases oR
    rw[yM hlp] at hp ⊢
    rw[(DF hp).1]
    rfl
   ·refine(Sx hp oR fun x hx b hb bI => ?_).2
    rcases Nat.lt_or_ge c k with hck | hck
    ·obtain⟨hcS,pc,hpc,UY⟩:=I.atc (Nat.lt_trans hck A.lt)
     have Kw:b<(st c).2.length:=by
      rcases Nat.lt_or_ge b (st c).2.length with h | h
      ·exact h
      ·exfalso
       obtain⟨l,hl⟩:=YN (A.operand I (Xv A.ok.XO hx)) hb
       have h0:=T.len (i:=0) (j:=c) (Nat.zero_le _) I.OS
       have h1:=T.len (i:=k) (j:=ops.size) (Nat.le_of_lt A.lt) (Nat.le_refl _)
       rcases I.Yy b l hl with h2 | ⟨i,hiS,dA,hi1,J7⟩
       ·exact h2 (BA b (by omega) (by omega))
       ·rcases Nat.lt_trichotomy i c with h3 | h3 | h3
        ·have:=T.len (i:=i+1) (j:=c) h3 I.OS
         omega
        ·subst h3;exact hcS hiS
        ·obtain⟨oi,qi,pii,_,YV,_⟩:=T.at dA
         have:=I.late T h3 dA hiS YV
         rw[T.Wa dA YV this] at J7
         omega
     refine(T.ZJ (Nat.le_of_lt hck) (Nat.le_of_lt A.lt) b Kw fun j hj1 YI q qi hq YV hqw ahW => ?_).symm
     obtain⟨pi',apN,jH⟩:=At.pair T YI A.lt hq A.ep
     rw[A.epi] at apN
     cases apN
     unfold Ei at jH
     rw[hqw,oR] at jH
     rcases jH with h | ⟨xa,xb,ha,uJ,hun,KI⟩
     ·exfalso
      rw[wX YI] at h
      have hjS:=A.anc j h
      rcases Nat.lt_or_ge c j with h3 | h3
      ·rcases I.late T h3 (Nat.lt_trans YI A.lt) hjS hq with h4 | h4<;>(rw[hqw] at h4;cases h4)
      ·have:j=c:=by omega
       subst this;exact hcS hjS
     ·rw[hx] at uJ
      cases uJ
      refine⟨xa,ha,fun e => ?_⟩
      have hk:=List.all_eq_true.1 Qp _ KI
      unfold AR at hk
      rw[GI T (Nat.le_of_lt YI) (Nat.le_of_lt A.lt) hun,e,hb] at hk
      simp at hk
    ·refine T.ZJ hck I.OS b bI fun j hj1 YI q qi hq YV hqw ahW => ?_
     have X5:k<j:=by
      rcases Nat.lt_or_ge k j with h | h
      ·exact h
      ·have:j=k:=by omega
       subst this
       rw[A.ep] at hq
       cases hq
       rw[hqw] at oR
       cases oR
     have hjn:j<ops.size:=Nat.lt_of_lt_of_le YI I.OS
     obtain⟨oj,q',qi',hoj,M7,aaB,aDd,_,vj,hvj,_⟩:=T.at hjn
     rw[hq] at M7
     cases M7
     rw[YV] at aaB
     cases aaB
     obtain⟨qi',aaB,jH⟩:=At.pair T X5 hjn A.ep hq
     rw[YV] at aaB
     cases aaB
     unfold Ei at jH
     rw[hqw,oR] at jH
     rcases jH with h | ⟨xa,xb,ha,uJ,hun,KI⟩
     ·exfalso
      rw[wX X5] at h
      exact A.desc j hjn (I.before j q YI hq hqw) h
     ·rw[hx] at ha
      cases ha
      refine⟨xb,uJ,fun e => ?_⟩
      have avC:qi.cf.all (AR (st j).1)=true:=by
       rcases tS hvj with⟨h,_⟩ | ⟨_,h,_⟩
       ·rw[ahW] at h;cases h
       ·exact h
      have hk:=List.all_eq_true.1 avC _ KI
      unfold AR at hk
      rw[GI T (Nat.le_of_lt X5) (Nat.le_of_lt hjn) hun,e,hb] at hk
      simp at hk
  rw[key]
 ·exfalso
  rw[A.ok.op] at hp
  rcases rY hp with⟨g,as,rfl⟩ | ⟨g,as,rfl⟩
  ·simp only[fU] at oR
   split at oR<;>rcases oR with h | h<;>cases h
  ·rcases oR with h | h<;>cases h
end
end Go.PM
namespace Go.PM
section
variable {P:Program} {E:AD} {n:Nat} {ops:Array Oper} {tE:List PI} {ps:List nK} {M:List Nat} {call:gH} {lo L0:Nat} {st:Nat→Env×aE}
 {m0:dN} {w0:World} {ds:List Deferred}
theorem Gi {H:aE} {b:Nat} (h:H.length≤b):¬Live H b:=fun hl=>by have:=hl.lt;omega
theorem ZY {S:Nat→Prop} {m:dN} {c:Nat} {a:Act} {w:World} {k:Nat} {o:Oper} (T:Text P E n ops tE ps M call lo st) (nT:wU P L0 call) (dK:L0≤lo) (Bk:L0≤(st 0).2.length)
  (BA:∀b,(st 0).2.length≤b→b<(st ops.size).2.length→m0 b=none) (I:sR E n ops ps lo L0 st m0 w0 ds S m c a w) (ho:ops[k]? = some o) (hkS:¬S k)
  (hr:∀e∈o.after.toList,Region.binds .any e=true→S e.on) {K:Act→World→Prop} {Q:Exit→Act→World→Prop}
  (hK:∀m' c' a' w',sR E n ops ps lo L0 st m0 w0 ds (fun i=>i=k∨S i) m' c' a' w'→K a' w'):wpOp P ops Q k K a w:=by
 have bI:k<ops.size:=(Array.getElem?_eq_some_iff.1 ho).1
 obtain⟨o',p,pi,ho',hp,XJ,DI,XS,v,hv,he⟩:=T.at bI
 rw[ho] at ho'
 cases ho'
 have ho2:ops.toList[k]? = some o:=by simpa using ho
 have A:At P E n ops tE ps M S k o p pi:=⟨bI,ho,hp,XJ,DI,XS,hkS,fun i hi=>T.anc I.back ho2 hr hi,fun i hi hS hb=>by
  have hio:ops.toList[i]? = some ops[i]:=by simp[hi]
  exact hkS (T.anc I.back hio (I.back i _ hio hS) hb)⟩
 have T0:=A.reads I
 have aiE:=T.len (i:=0) (j:=c) (Nat.zero_le _) I.OS
 have asL:=T.len (i:=c) (j:=ops.size) I.OS (Nat.le_refl _)
 have apQ:=T.len (i:=0) (j:=k) (Nat.zero_le _) (Nat.le_of_lt bI)
 have awH:=T.len (i:=k+1) (j:=ops.size) bI (Nat.le_refl _)
 have auT:=T.arP bI
 have hfk:∀b,(st k).2.length≤b→b<(st (k+1)).2.length→m b=none:=by
  intro b h1 h2
  cases hm:m b with
  | none=>rfl
  |
   some l =>
   exfalso
   rcases I.Yy b l hm with h3 | ⟨i,hiS,dA,hi1,J7⟩
   ·exact h3 (BA b (by omega) (by omega))
   ·rcases Nat.lt_trichotomy i k with h3 | h3 | h3
    ·have:=T.len (i:=i+1) (j:=k) h3 (Nat.le_of_lt bI)
     omega
    ·subst h3;exact hkS hiS
    ·have:=T.len (i:=k+1) (j:=i) h3 (Nat.le_of_lt dA)
     omega
 have Qw:(fU E p = .pure∨fU E p = .look)→wpOp P ops Q k K a w:=by
  intro oR
  have hq:pi.quiet=false:=by
   rw[XS.quiet]
   rcases oR with h | h<;>rw[h]
  have hw:fU E p ≠ .write:=by rcases oR with h | h<;>(rw[h];exact fun h=>by cases h)
  refine O7 ho DI (fun h=>by rw[hq] at h;cases h) (I.look T A BA oR hv) T0 I.rel dK (Nat.le_trans Bk aiE) (fun b h1 h2=>by omega) nT fun m' rv w' Tm hR hT => ?_
  rw[hq] at hT
  simp only[Bool.false_eq_true,if_false] at hT
  have hmm:m'=m:=by
   funext b
   cases hm:m b with
   | some l=>exact hT.ext b l hm
   |
    none =>
    cases hm':m' b with
    | none=>rfl
    | some l=>have:=(hT.new b l hm' hm).1;omega
  subst hmm
  refine hK m' c _ w' ⟨by rw[FW];exact I.FY,by rw[FR];exact I.defs,I.aaP A hr,I.OD T A (fun _ _ h=>h) Tm he,I.OS,fun i q h1 h2 h3 => .inr (I.before i q h1 h2 h3),?_,hR,?_,?_⟩
  ·intro h
   obtain⟨h1,q,h2,h3⟩:=I.atc h
   refine⟨fun hS=>hS.elim (fun e => ?_) h1,q,h2,h3⟩
   subst e
   rw[hp] at h2
   cases h2
   exact hw h3
  ·exact Trans.trans (fun b h1 h2=>BA b h1 (by omega)) (T.Z3 (Nat.zero_le _) I.OS) (Ext.refl _ _) I.tr hT
  ·intro b l hb
   exact(I.Yy b l hb).imp id fun⟨i,h1,h2⟩=>⟨i,.inr h1,h2⟩
 cases oR:fU E p with
 |
  write =>
  have hkc:k=c:=by
   rcases Nat.lt_trichotomy k c with h | h | h
   ·exact absurd (I.before k p h hp oR) hkS
   ·exact h
   ·exfalso
    obtain⟨hcS,pc,hpc,UY⟩:=I.atc (by omega)
    obtain⟨qi,_,jH⟩:=At.pair T h bI hpc hp
    unfold Ei at jH
    rw[UY,oR] at jH
    simp only at jH
    rw[wX h] at jH
    exact hcS (A.anc c jH)
  subst hkc
  refine O7 ho DI (fun hq=>by rw[XS.quiet,oR] at hq;cases hq) hv T0 I.rel dK (Nat.le_trans Bk aiE) hfk nT fun m' rv w' Tm hR hT => ?_
  have hq:pi.quiet=false:=by rw[XS.quiet,oR]
  rw[hq] at hT
  simp only[Bool.false_eq_true,if_false] at hT
  obtain⟨c',hc1,ZR,hc3,hc4⟩:=E7 (fun i=>∃q,ps[i]? = some q∧fU E q = .write) _ (k+1) ops.size rfl bI
  have Vd:∀b,b<(st (k+1)).2.length→(st c').2[b]? = (st (k+1)).2[b]? := T.same hc1 ZR fun i h1 h2 q hq hw=>hc3 i h1 h2 ⟨q,hq,hw⟩
  have awJ:=T.len hc1 ZR
  have asJ:=T.len (i:=c') (j:=ops.size) ZR (Nat.le_refl _)
  have apX:∀b l,m' b=some l→m0 b≠none∨∃i,(i=k∨S i)∧i<ops.size∧(st i).2.length≤b∧b<(st (i+1)).2.length:=by
   intro b l hb
   cases hm:m b with
   | some l'=>exact(I.Yy b l' hm).imp id fun⟨i,h1,h2⟩=>⟨i,.inr h1,h2⟩
   | none=>exact .inr ⟨k,.inl rfl,bI,(hT.new b l hb hm).1⟩
  have akJ:∀b,(st (k+1)).2.length≤b→b<(st c').2.length→m' b=none:=by
   intro b h1 h2
   cases hm:m' b with
   | none=>rfl
   |
    some l =>
    exfalso
    rcases apX b l hm with h3 | ⟨i,hiS,dA,hi1,J7⟩
    ·exact h3 (BA b (by omega) (by omega))
    ·rcases Nat.lt_trichotomy i k with h3 | h3 | h3
     ·have:=T.len (i:=i+1) (j:=k) h3 (Nat.le_of_lt bI)
      omega
     ·subst h3;omega
     ·obtain⟨oi,qi,pii,_,YV,_⟩:=T.at dA
      have:=I.late T h3 dA (hiS.resolve_left (by omega)) YV
      rw[T.Wa dA YV this] at J7
      omega
  have hTT:Trans lo m0 (st 0).2 w0 m' (st (k+1)).2 w':=Trans.trans (fun b h1 h2=>BA b h1 (by omega)) (T.Z3 (Nat.zero_le _) (Nat.le_of_lt bI)) (T.Z3 (Nat.le_succ _) bI) I.tr hT
  refine hK m' c' _ w' ⟨by rw[FW];exact I.FY,by rw[FR];exact I.defs,I.aaP A hr,I.OD T A hT.ext Tm he,ZR,?_,?_,hR.grow Vd akJ,?_,apX⟩
  ·intro i q hi hq hw
   rcases Nat.lt_trichotomy i k with h | h | h
   ·exact .inr (I.before i q h hq hw)
   ·exact .inl h
   ·exact absurd ⟨q,hq,hw⟩ (hc3 i h hi)
  ·intro h
   obtain⟨q,hq,hw⟩:=hc4 h
   refine⟨fun hS => ?_,q,hq,hw⟩
   rcases hS with hS | hS
   ·omega
   ·rcases I.late T (by omega) h hS hq with h4 | h4<;>(rw[hw] at h4;cases h4)
  ·refine⟨hTT.ext,fun b l hb hn => ?_,hTT.size,hTT.cJ,hTT.same⟩
   obtain⟨⟨h1,h2⟩,h3⟩:=hTT.new b l hb hn
   refine⟨⟨h1,by omega⟩,?_⟩
   rcases h3 with h3 | h3 | h3
   ·exact .inl h3
   ·exact .inr (.inl fun hl=>h3 ((iT (Vd b h2)).1 hl))
   ·exact .inr (.inr h3)
 |
  quiet =>
  have hkc:k<c:=by
   rcases Nat.lt_or_ge k c with h | h
   ·exact h
   ·exfalso
    rcases Nat.lt_or_ge c k with h' | h'
    ·obtain⟨hcS,pc,hpc,UY⟩:=I.atc (by omega)
     obtain⟨qi,_,jH⟩:=At.pair T h' bI hpc hp
     unfold Ei at jH
     rw[UY,oR] at jH
     simp only at jH
     rw[wX h'] at jH
     exact hcS (A.anc c jH)
    ·have:k=c:=by omega
     subst this
     obtain⟨_,pc,hpc,UY⟩:=I.atc bI
     rw[hp] at hpc
     cases hpc
     rw[oR] at UY
     cases UY
  have Xq:∀i,k<i→i<c→∀q,ps[i]? = some q→fU E q ≠ .write:=by
   intro i h1 h2 q hq hw
   have dA:i<ops.size:=Nat.lt_of_lt_of_le h2 I.OS
   obtain⟨qi,_,jH⟩:=At.pair T h1 dA hp hq
   unfold Ei at jH
   rw[oR,hw] at jH
   simp only at jH
   rw[wX h1] at jH
   exact A.desc i dA (I.before i q h2 hq hw) jH
  have Nh:∀b,b<(st (k+1)).2.length→(st c).2[b]? = (st (k+1)).2[b]? := T.same hkc I.OS fun i h1 h2 q hq=>Xq i h1 h2 q hq
  have hs0:∀b,b<(st k).2.length→(st c).2[b]? = (st k).2[b]? := T.same (Nat.le_of_lt hkc) I.OS fun i h1 h2 q hq=>by
   rcases Nat.lt_or_ge k i with h | h
   ·exact Xq i h h2 q hq
   ·have:i=k:=by omega
    subst this
    rw[hp] at hq
    cases hq
    rw[oR]
    exact fun h=>by cases h
  have aAL:=T.len (i:=k+1) (j:=c) hkc I.OS
  refine O7 ho DI (fun _=>oR) hv T0 (I.rel.restrict hs0) dK (Nat.le_trans Bk apQ) hfk nT fun m' rv w' Tm hR hT => ?_
  have hq:pi.quiet=true:=by rw[XS.quiet,oR]
  rw[hq] at hT
  simp only[if_true] at hT
  have JD:∀rb,rb<w.heap.size→w'.heap[rb]? = w.heap[rb]? := fun rb Dt=>hT.cJ rb Dt fun b l hb _ hl=>absurd hl (Gi hb)
  have sE:∀b l,m' b=some l→m b=none→((st k).2.length≤b∧b<(st (k+1)).2.length)∧(w.heap.size≤l.rb∨¬Live (st (k+1)).2 b):=by
   intro b l h1 h2
   obtain⟨h3,h4⟩:=hT.new b l h1 h2
   refine⟨h3,?_⟩
   rcases h4 with h4 | h4 | ⟨b0,l0,g1,_,g3,_⟩
   ·exact .inl h4
   ·exact .inr h4
   ·exact absurd g3 (Gi g1)
  have arI:∀b l,m b=some l→l.rb<w.heap.size:=by
   intro b l hb
   obtain⟨arr,e,fz,h1,_⟩:=I.rel.valid b l hb
   exact(Array.getElem?_eq_some_iff.1 h1).1
  have ZE:∀rb j,rb<w.heap.size→w'.cell? ⟨rb,j,none⟩=w.cell? ⟨rb,j,none⟩:=by
   intro rb j Dt
   unfold World.cell?
   simp only[JD rb Dt]
  have BC:∀b l,m' b=some l→(st (k+1)).2.length≤b→m b=some l:=by
   intro b l hb h
   cases hm:m b with
   | some l'=>have:=hT.ext b l' hm;rw[hb] at this;exact this.symm
   | none=>have:=(sE b l hb hm).1.2;omega
  refine hK m' c _ w' ⟨by rw[FW];exact I.FY,by rw[FR];exact I.defs,I.aaP A hr,I.OD T A hT.ext Tm he,I.OS,fun i q h1 h2 h3 => .inr (I.before i q h1 h2 h3),?_,⟨hR.valid,?_,?_,?_⟩,?_,?_⟩
  ·intro h
   obtain⟨h1,q,h2,h3⟩:=I.atc h
   exact⟨fun hS=>hS.elim (fun e=>by omega) h1,q,h2,h3⟩
  ·intro b l cs e pp hm hb
   rcases Nat.lt_or_ge b (st (k+1)).2.length with h | h
   ·exact hR.row b l cs e pp hm (by rw[←Nh b h];exact hb)
   ·have WC:=BC b l hm h
    obtain⟨h1,h2,h3,h4⟩:=I.rel.row b l cs e pp WC hb
    refine⟨h1,h2,h3,fun i hi => ?_⟩
    obtain⟨rv',g1,g2,g3⟩:=h4 i hi
    exact⟨rv',by rw[ZE _ _ (arI b l WC)];exact g1,g2.mono hT.ext,g3⟩
  ·intro b1 b2 l1 l2 Eb h1 h2 Ct FF Dt
   have fresh:∀b b' l l',m' b=some l→m b=none→m b'=some l'→Live (st c).2 b→l.rb=l'.rb→False:=by
    intro b b' l l' g1 g2 g3 g4 g5
    obtain⟨⟨_,g6⟩,g7⟩:=sE b l g1 g2
    rcases g7 with g7 | g7
    ·have:=arI b' l' g3;omega
    ·exact g7 ((iT (Nh b g6)).1 g4)
   cases Qo:m b1 with
   |
    some l1' =>
    cases hm2:m b2 with
    |
     some l2' =>
     have e1:l1'=l1:=by have:=hT.ext b1 l1' Qo;rw[h1] at this;injection this with this;exact this.symm
     have e2:l2'=l2:=by have:=hT.ext b2 l2' hm2;rw[h2] at this;injection this with this;exact this.symm
     subst e1 e2
     exact I.rel.inj b1 b2 _ _ Eb Qo hm2 Ct FF Dt
    |
     none =>
     have e1:l1'=l1:=by have:=hT.ext b1 l1' Qo;rw[h1] at this;injection this with this;exact this.symm
     subst e1
     exact(fresh b2 b1 _ _ h2 hm2 Qo FF Dt.symm).elim
   |
    none =>
    cases hm2:m b2 with
    |
     some l2' =>
     have e2:l2'=l2:=by have:=hT.ext b2 l2' hm2;rw[h2] at this;injection this with this;exact this.symm
     subst e2
     exact(fresh b1 b2 _ _ h1 Qo hm2 Ct Dt).elim
    |
     none =>
     have g1:=(sE b1 l1 h1 Qo).1.2
     have g2:=(sE b2 l2 h2 hm2).1.2
     exact hR.inj b1 b2 l1 l2 Eb h1 h2 ((iT (Nh b1 g1)).1 Ct) ((iT (Nh b2 g2)).1 FF) Dt
  ·intro x hx
   refine⟨(hR.Db x hx).1,fun b l hb hm hl => ?_⟩
   obtain⟨⟨e0,fz0,q1⟩,q2⟩:=I.rel.Db x hx
   cases Qo:m b with
   |
    some l' =>
    have e1:l'=l:=by have:=hT.ext b l' Qo;rw[hm] at this;injection this with this;exact this.symm
    subst e1
    exact q2 b l' hb Qo hl
   |
    none =>
    obtain⟨⟨_,g6⟩,g7⟩:=sE b l hm Qo
    rcases g7 with g7 | g7
    ·have:=(Array.getElem?_eq_some_iff.1 q1).1
     omega
    ·exact(g7 ((iT (Nh b g6)).1 hl)).elim
  ·refine⟨fun b l hb=>hT.ext b l (I.tr.ext b l hb),fun b l hb hn => ?_,Nat.le_trans I.tr.size hT.size,fun rb Dt hk => ?_,hT.same.1.trans I.tr.same.1,hT.same.2.1.trans I.tr.same.2.1,hT.same.2.2.trans I.tr.same.2.2⟩
   ·cases hm:m b with
    |
     some l' =>
     have e1:l'=l:=by have:=hT.ext b l' hm;rw[hb] at this;injection this with this;exact this.symm
     subst e1
     exact I.tr.new b l' hm hn
    |
     none =>
     obtain⟨⟨g1,g2⟩,g3⟩:=sE b l hb hm
     refine⟨⟨by omega,by omega⟩,?_⟩
     rcases g3 with g3 | g3
     ·exact .inl (Nat.le_trans I.tr.size g3)
     ·exact .inr (.inl fun hl=>g3 ((iT (Nh b g2)).1 hl))
   ·rw[JD rb (Nat.lt_of_lt_of_le Dt I.tr.size),I.tr.cJ rb Dt hk]
  ·intro b l hb
   cases hm:m b with
   | some l'=>exact(I.Yy b l' hm).imp id fun⟨i,h1,h2⟩=>⟨i,.inr h1,h2⟩
   | none=>exact .inr ⟨k,.inl rfl,bI,(sE b l hb hm).1⟩
 | pure=>exact Qw (.inl oR)
 | look=>exact Qw (.inr oR)
end
end Go.PM
namespace Go.PM
section
variable {P:Program} {E:AD} {n:Nat} {call:gH} {lo L0:Nat}
theorem Trans.fresh {m m':dN} {H H1 H2:aE} {w w':World} (h:Trans lo m H w m' H1 w') (h1:H.length≤H1.length) (hf:∀b,H.length≤b→b<H2.length→m b=none):∀b,H1.length≤b→b<H2.length→m' b=none:=by
 intro b Eb hb2
 cases hm:m' b with
 | none=>rfl
 |
  some l =>
  exfalso
  have hn:=hf b (by omega) hb2
  have:=(h.new b l hm hn).1
  omega
structure Iq (n L0:Nat) (m:dN) (ρ:Env) (H:aE) (a:Act) (w:World):Prop where
 FY:a.tmps.size=n
 defs:a.defers=[]
 env:∀t,RV m (ρ t) (a.tmps.getD t undef)
 rel:Rel m L0 H w
theorem OX {p q:Nat→Bool}:∀ {l:List Nat} {i:Nat},(∀x∈l,q x=true→p x=true)→i∈l→p i=true→q i=false→l.countP q<l.countP p
 |
  x::l,i,h,hi,hp,hq=>by
  rw[List.countP_cons,List.countP_cons]
  have hle:l.countP q≤l.countP p:=List.countP_mono_left fun x hx=>h x (List.mem_cons_of_mem _ hx)
  rcases List.mem_cons.1 hi with rfl | hi
  ·rw[if_neg (by simp[hq]),if_pos hp];omega
  ·have:=OX (fun x hx=>h x (List.mem_cons_of_mem _ hx)) hi hp hq
   have:(if q x=true then 1 else 0)≤(if p x=true then 1 else 0):=by
    by_cases hqx:q x=true
    ·rw[if_pos hqx,if_pos (h x List.mem_cons_self hqx)];omega
    ·rw[if_neg hqx];omega
   omega
theorem KH {listed:Array Bool} {k i:Nat} (hk:k<listed.size):(listed.setIfInBounds k true).getD i false=true↔(i=k∨listed.getD i false=true):=by
 rcases Nat.lt_or_ge i listed.size with h | h
 ·by_cases e:i=k
  ·subst e;simp[h]
  ·simp[h,e,Ne.symm e]
 ·have:i≠k:=by omega
  simp[h,this]
theorem aeS {ops:Array Oper} {tE:List PI} {ps:List nK} {M:List Nat} {st:Nat→Env×aE} {m0:dN} {w0:World} (T:Text P E n ops tE ps M call lo st) (nT:wU P L0 call) (dK:L0≤lo) (Bk:L0≤(st 0).2.length)
  (BA:∀b,(st 0).2.length≤b→b<(st ops.size).2.length→m0 b=none) {Q:Exit→Act→World→Prop}
  (hQ:∀m' a' w',Iq n L0 m' (st ops.size).1 (st ops.size).2 a' w'→Trans lo m0 (st 0).2 w0 m' (st ops.size).2 w'→Q .normal a' w') :
  ∀(fuel:Nat) (listed:Array Bool) (m:dN) (c:Nat) (a:Act) (w:World),listed.size=ops.size→((List.range ops.size).countP fun i => !listed.getD i false)≤fuel →
  sR E n ops ps lo L0 st m0 w0 [] (fun i=>listed.getD i false=true) m c a w→wpAny P .any ops Q fuel listed a w:=by
 have fin:∀(listed:Array Bool) (m:dN) (c:Nat) (a:Act) (w:World),listed.size=ops.size→(Region.ready .any ops listed=[])→sR E n ops ps lo L0 st m0 w0 [] (fun i=>listed.getD i false=true) m c a w→Q .normal a w:=by
  intro listed m c a w hs hr I
  have all:∀i,i<ops.size→listed.getD i false=true:=by
   intro i
   induction i using Nat.strongRecOn with
   |
    _ i ih =>
    intro hi
    cases hl:listed.getD i false with
    | true=>rfl
    |
     false =>
     exfalso
     obtain⟨o,p,pi,ho,_,_,_,XS,_⟩:=T.at hi
     have:i∈Region.ready .any ops listed:=by
      rw[mem_ready]
      refine⟨?_,o,ho,fun e he hb => ?_⟩
      ·have UF:i<listed.size:=by omega
       simpa[UF] using hl
      ·have:=XS.back e (by simpa using he) hb
       exact ih e.on this (by omega)
     rw[hr] at this
     cases this
  have hcN:c=ops.size:=by
   rcases Nat.lt_or_ge c ops.size with h | h
   ·exact absurd (all c h) (I.atc h).1
   ·have:=I.OS;omega
  subst hcN
  exact hQ m a w ⟨I.FY,I.defs,fun t=>I.tm t ops.size (Nat.le_refl _) fun i o hi _=>⟨fun _=>FA hi,fun h=>all i h⟩,I.rel⟩ I.tr
 intro fuel
 induction fuel with
 |
  zero =>
  intro listed m c a w hs hc I
  have hr:Region.ready .any ops listed=[]:=by
   rw[List.eq_nil_iff_forall_not_mem]
   intro i hi
   have mA:=mem_ready.1 hi
   obtain⟨h1,o,ho,_⟩:=mA
   have bI:i<ops.size:=(Array.getElem?_eq_some_iff.1 ho).1
   have h0:((List.range ops.size).countP fun i => !listed.getD i false)=0:=by omega
   rw[List.countP_eq_zero] at h0
   have:=h0 i (List.mem_range.2 bI)
   have UF:i<listed.size:=by omega
   simp[UF] at this h1
   rw[h1] at this
   cases this
  exact⟨hr,fin listed m c a w hs hr I⟩
 |
  succ fuel ih =>
  intro listed m c a w hs hc I
  refine⟨fun hr=>fin listed m c a w hs hr I,fun k hk => ?_⟩
  obtain⟨h1,o,ho,hb⟩:=mem_ready.1 hk
  have bI:k<ops.size:=(Array.getElem?_eq_some_iff.1 ho).1
  have hkl:k<listed.size:=by omega
  have hkf:listed.getD k false=false:=by simpa[hkl] using h1
  refine ZY T nT dK Bk BA I ho (by rw[hkf];exact fun h=>by cases h) (fun e he hbd=>hb e (by simpa using he) hbd) fun m' c' a' w' I'=>ih _ m' c' a' w' (by simpa using hs) ?_ ?_
  ·have:((List.range ops.size).countP fun i => !(listed.setIfInBounds k true).getD i false)<((List.range ops.size).countP fun i => !listed.getD i false):=by
    refine OX (i:=k) (fun x _ hx => ?_) (List.mem_range.2 bI) (by rw[hkf];rfl) ?_
    ·cases hlx:listed.getD x false with
     | false=>rfl
     |
      true =>
      have:=(KH (i:=x) hkl).2 (.inr hlx)
      rw[this] at hx
      cases hx
    ·rw[(KH hkl).2 (.inl rfl)];rfl
   omega
  ·have e:(fun i=>(listed.setIfInBounds k true).getD i false=true)=fun i=>i=k∨listed.getD i false=true:=by
    funext i
    exact propext (KH hkl)
   rw[e]
   exact I'
theorem Rel.drew {m:dN} {H:aE} {w w':World} (h:Rel m L0 H w) (hw:w'.heap=w.heap):Rel m L0 H w':=by
 have hc:∀x,w'.cell? x=w.cell? x:=fun x=>by unfold World.cell?;rw[hw]
 refine⟨fun b l hb=>by rw[hw];exact h.valid b l hb,fun b l cs e p hm hb => ?_,h.inj,fun x hx=>⟨by rw[hw];exact(h.Db x hx).1,(h.Db x hx).2⟩⟩
 obtain⟨h1,h2,h3,h4⟩:=h.row b l cs e p hm hb
 refine⟨h1,h2,h3,fun i hi => ?_⟩
 rw[hc]
 exact h4 i hi
theorem Tp {id:Nat} {ops:Array Oper} {draw:Bool} {tE:List PI} (CZ:P.follows .mixedOrders=true) (nT:wU P L0 call) (rB:rJ call) (hp:xW P E n ops draw=some tE) {ρ bK:Env} {H H':aE}
  (hv:gR call lo tE ρ H=some (bK,H')) {m:dN} {a:Act} {w:World} (h:Iq n L0 m ρ H a w) (dK:L0≤lo) (hlen:L0≤H.length) (hf:∀b,H.length≤b→b<H'.length→m b=none) {Q:Exit→Act→World→Prop}
  (hQ:∀m' a' w',Iq n L0 m' bK H' a' w'→Trans lo m H w m' H' w'→Q .normal a' w'):(Code.region id ops draw).wp P Q a w:=by
 obtain⟨ps,M,DI⟩:=JR hp
 obtain⟨st,hs0,hsn,Fg⟩:=F4 hv
 have hN:tE.length=ops.size:=by rw[DI.auM];simp
 rw[hN] at hsn
 cases draw with
 |
  true =>
  have T:Text P E n ops tE ps M call lo st:=⟨DI,rB,Fg⟩
  apply wp_region_any CZ
  have e0:(st 0).1=ρ:=by rw[hs0]
  have e1:(st 0).2=H:=by rw[hs0]
  have e2:(st ops.size).1=bK:=by rw[hsn]
  have e3:(st ops.size).2=H':=by rw[hsn]
  obtain⟨c,hc1,ZR,hc3,hc4⟩:=E7 (fun i=>∃q,ps[i]? = some q∧fU E q = .write) _ 0 ops.size rfl (Nat.zero_le _)
  have Vd:=T.same hc1 ZR fun i h1 h2 q hq hw=>hc3 i h1 h2 ⟨q,hq,hw⟩
  have asL:=T.len hc1 ZR
  have asJ:=T.len (i:=c) (j:=ops.size) ZR (Nat.le_refl _)
  have hgr:=h.rel.grow (by rw[←e1];exact Vd) (fun b h1 h2=>hf b h1 (by rw[←e3];omega))
  have YM:∀i,(Array.replicate ops.size false).getD i false=true→False:=by
   intro i hi
   rcases Nat.lt_or_ge i ops.size with h | h<;>simp[h] at hi
  refine aeS (m0:=m) (w0:=w) T nT dK (by rw[e1];exact hlen) (by rw[e1,e3];exact hf) (by rw[e1,e2,e3];exact hQ) ops.size _ m c a _ (by simp) (Nat.le_trans List.countP_le_length (by simp)) ?_
  refine⟨h.FY,h.defs,fun i o _ hi=>(YM i hi).elim,fun t j hj hw => ?_,ZR,fun i q hi hq hw=>absurd ⟨q,hq,hw⟩ (hc3 i (Nat.zero_le _) hi),fun hc=>⟨fun h=>YM _ h,hc4 hc⟩,hgr.drew rfl,?_,fun b l hb => .inl (by rw[hb];exact fun h=>by cases h)⟩
  ·have e:(st j).1 t=ρ t:=by
    rw[←e0]
    refine T.P9 (Nat.zero_le _) hj fun i oi _ J7 hoi hd => ?_
    have Re:ops.toList[i]? = some oi:=by simpa using hoi
    exact(YM i ((hw i oi Re hd).2 J7)).elim
   rw[e]
   exact h.env t
  ·rw[e1]
   refine⟨fun _ _ h=>h,fun b l hb hn=>(by rw[hb] at hn;cases hn),Nat.le_refl _,fun _ _ _=>rfl,rfl,rfl,rfl⟩
 |
  false =>
  apply wp_region
  have key:∀d i,ops.size-i=d→i≤ops.size→∀m1 a1 w1,Iq n L0 m1 (st i).1 (st i).2 a1 w1→L0≤(st i).2.length→(∀b,(st i).2.length≤b→b<H'.length→m1 b=none) →
    (∀m' a' w',Iq n L0 m' bK H' a' w'→Trans lo m1 (st i).2 w1 m' H' w'→Q .normal a' w')→wpOps P ops Q ((List.range ops.size).drop i) a1 w1:=by
   intro d
   induction d with
   |
    zero =>
    intro i hd hi m1 a1 w1 h1 _ _ hQ1
    have:i=ops.size:=by omega
    subst this
    rw[List.drop_eq_nil_of_le (by simp)]
    rw[hsn] at h1 hQ1
    exact hQ1 m1 a1 w1 h1 (Trans.refl _ _ _ _)
   |
    succ d ih =>
    intro i hd hi m1 a1 w1 h1 Ct hf1 hQ1
    have bI:i<ops.size:=by omega
    rw[List.drop_eq_getElem_cons (by simpa using bI),wpOps_cons]
    have ho:ops.toList[i]? = some ops[i]:=by simp[bI]
    obtain⟨p,pi,hp1,Ki,amW,_,XS⟩:=DI.each i _ ho
    have ajL:=Fg i pi Ki
    obtain⟨v,hv1,hv2⟩:=xO ajL
    have hq:pi.quiet=false:=(XS rfl).1
    have hE1:=HK rB ajL
    have hE2:Ext lo (st (i+1)).2 H':=by
     have:∀d j,ops.size-j=d→j≤ops.size→Ext lo (st j).2 H':=by
      intro d
      induction d with
      | zero =>
        intro j hd hj;have:j=ops.size:=by omega
        subst this;rw[hsn];exact Ext.refl _ _
      |
       succ d ih =>
       intro j hd hj
       have hjl:j<tE.length:=by omega
       exact(HK rB (Fg j tE[j] (List.getElem?_eq_getElem hjl))).trans (ih (j+1) (by omega) (by omega))
     exact this _ (i+1) rfl bI
    have EO:(List.range ops.size)[i]'(by simpa using bI)=i:=by simp
    rw[EO]
    refine O7 (by simp[bI]) amW (fun h=>by rw[hq] at h;cases h) hv1 (fun t _=>h1.env t) h1.rel dK Ct (fun b Eb hb2=>hf1 b Eb (Nat.lt_of_lt_of_le hb2 hE2.len)) nT fun m' rv w' Tm hR hT => ?_
    rw[hq] at hT
    simp only[Bool.false_eq_true,if_false] at hT
    refine ih (i+1) (by omega) bI m' _ w' ⟨by rw[FW];exact h1.FY,by rw[FR];exact h1.defs,fun t => ?_,hR⟩ (Nat.le_trans Ct hE1.len) (hT.fresh hE1.len hf1) fun m2 a2 w2 h2 QP=>hQ1 m2 a2 w2 h2 (Trans.trans hf1 hE1 hE2 hT QP)
    rw[hv2,amW.dst]
    cases hd:ops[i].dst with
    | none=>exact(h1.env t).mono hT.ext
    |
     some d =>
     rw[SQ (by rw[h1.FY];exact amW.bound d hd)]
     show RV m' (if t=d then v else (st i).1 t) _
     by_cases e:t=d
     ·rw[if_pos e,if_pos e];exact Tm
     ·rw[if_neg e,if_neg e];exact(h1.env t).mono hT.ext
  have:=key ops.size 0 (by omega) (Nat.zero_le _) m a w (by rw[hs0];exact h) (by rw[hs0];exact hlen) (by rw[hs0];exact hf) (by rw[hs0];exact hQ)
  simpa using this
end
end Go.PM