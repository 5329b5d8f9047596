/- Texts of a claim, in one: part 2. -/
import Derived.LoopN
import Derived.Test.YtodamlihdkalfaaGreatDoorKWa
set_option linter.unusedSimpArgs false
set_option linter.unusedVariables false
namespace Go.PM
section
variable {P:Program} {m:dA} {L0:Nat} {H:aE} {w:World}
theorem RL.const {zs:List Value} (h:zs.all kS=true):RL m zs zs :=
 ⟨rfl,fun j hj=>by
  have:=RV.const (m:=m) (List.all_eq_true.1 h _ (List.getElem_mem hj))
  simpa[List.getD_eq_getElem?_getD,List.getElem?_eq_getElem hj] using this⟩
theorem uD (n:Nat) (zs:List Value):(cM n zs).length=n*zs.length:=by simp[cM]
theorem wC (n:Nat) {zs:List Value} (h:zs.all kS=true) (h0:1≤zs.length):RL m (cM n zs) (cM n zs):=by
 refine⟨rfl,fun i hi => ?_⟩
 rw[uD] at hi
 have aX:i % zs.length<zs.length:=Nat.mod_lt _ h0
 have e:(cM n zs).getD i undef=zs.getD (i % zs.length) undef:=by simp[cM,List.getD_eq_getElem?_getD,hi]
 rw[e]
 exact(RL.const h).2 _ aX
theorem Qq (n:Nat) {zs:List Value} (h:zs.all gO=true) (h0:1≤zs.length):(cM n zs).all gO=true:=by
 rw[List.all_eq_true]
 intro x hx
 obtain⟨i,_,rfl⟩:=List.mem_map.1 hx
 have aX:i % zs.length<zs.length:=Nat.mod_lt _ h0
 have:=List.all_eq_true.1 h _ (List.getElem_mem aX)
 simpa[List.getD_eq_getElem?_getD,List.getElem?_eq_getElem aX] using this
theorem Hx (z:Array Value) (n:Nat) (h0:1≤z.size):(madeCells z (n*z.size)).toList=cM n z.toList:=by
 apply List.ext_getElem
 ·simp[madeCells,cM]
 ·intro i h1 h2
  have aX:i % z.size<z.size:=Nat.mod_lt _ h0
  simp[madeCells,cM,aX]
theorem Fo (z:Array Value) (n:Nat) (h0:1≤z.size):(Builtin.zeroCells z n).toList=cM n z.toList:=by
 apply List.ext_getElem
 ·simp[Builtin.zeroCells,cM]
 ·intro i h1 h2
  have aX:i % z.size<z.size:=Nat.mod_lt _ h0
  simp[Builtin.zeroCells,cM,aX]
theorem Xj {t:TypeId} {agg:Bool} {size nb lo:Nat} {z:List Value} (ht:lY P t=some (agg,size,z,nb)) (GC:z.all gO=true) (V5:z.all kS=true) (hR:Rel m L0 H w) (hf:m H.length=none) :
  cF P (do pure (.value (←Instr.alloc t true (.tuple #[])))) L0 lo m H w (.pointer (some ⟨H.length,0,none⟩)) (H++[.row z z.length false]):=by
 obtain⟨i,d,zz,hi,hd,Gt,rfl,rfl,rfl,rfl⟩:=iU ht
 have pG:(Instr.alloc t true (.tuple #[])).run P w = .ok (.pointer (some ⟨w.heap.size,0,none⟩)) (w.alloc (.cells zz.cells t)):=by
  simp[Instr.alloc,zeroValue,typeInfo,hi,Gt,newVar,newRow]
 have hA:=wO hR hf (w':=w.alloc (.cells zz.cells t)) (arr:=zz.cells) (e:=t) (fz:=(0,0)) rfl ⟨rfl,rfl,rfl⟩ (cs:=aL zz) (fM:=(aL zz).length) (OH:=false)
  (by rw[eO];exact Nat.le_refl _) (fun i hi=>by
   have:=(RL.const (m:=m) V5).2 i hi
   rwa [←zJ,fT]) GC (fun j _ h=>by simp at h)
 exact cF.value pG (.ptr _ 0 _ (bQ m _ _)) hA.1 (hA.2 lo)
theorem Wa {t:TypeId} {v r:Value} {lo:Nat} (hv:RV m v r) (hs:(aL v).all gO=true) (hR:Rel m L0 H w) (hf:m H.length=none) :
  cF P (do pure (.value (←Instr.box t r))) L0 lo m H w (.pointer (some ⟨H.length,0,none⟩)) (H++[.row (aL v) (aL v).length false]):=by
 have pG:(Instr.box t r).run P w = .ok (.pointer (some ⟨w.heap.size,0,none⟩)) (w.alloc (.cells r.cells t)):=by
  simp[Instr.box,newVar,newRow]
 have hA:=wO hR hf (w':=w.alloc (.cells r.cells t)) (arr:=r.cells) (e:=t) (fz:=(0,0)) rfl ⟨rfl,rfl,rfl⟩ (cs:=aL v) (fM:=(aL v).length) (OH:=false)
  (by rw[eO,hv.aL.1];exact Nat.le_refl _) (fun i hi=>by
   have:=hv.aL.2 i hi
   rwa [←zJ,fT]) hs (fun j _ h=>by simp at h)
 exact cF.value pG (.ptr _ 0 _ (bQ m _ _)) hA.1 (hA.2 lo)
theorem Vf {t:TypeId} {agg:Bool} {size nb lo:Nat} {z:List Value} {kl kc:IntKind} {l c:Int} (ht:jZ P t=some (agg,size,z,nb)) (GC:z.all gO=true) (V5:z.all kS=true) (Tr:size=z.length) (DN:1≤size)
  (hl:0≤l) (hlc:l≤c) (hb:c*nb≤281474976710656) (hc:c≤9223372036854775807) (hR:Rel m L0 H w) (hf:m H.length=none) :
  cF P (do pure (.value (←Instr.makeSlice t (.int kl l) (.int kc c)))) L0 lo m H w (.slice (some ⟨H.length,0,none⟩) l.toNat c.toNat) (H++[.row (cM c.toNat z) z.length false]):=by
 obtain⟨e,hu,HX⟩:=jK ht
 obtain⟨i,d,zz,hi,hd,Gt,rfl,rfl,rfl,rfl⟩:=iU HX
 have pG:=run_make (P:=P) w t e i zz hu hi Gt kl kc l c hl hlc (by rw[Int.mul_comm];exact hb) hc
 have CO:i.size=zz.cells.size:=by rw[Tr,eO]
 rw[CO] at pG DN
 have oN:(madeCells zz.cells (c.toNat*zz.cells.size)).toList=cM c.toNat (aL zz):=by rw[Hx _ _ DN,fT]
 have ahP:(madeCells zz.cells (c.toNat*zz.cells.size)).size=c.toNat*(aL zz).length:=by rw[size_madeCells,eO]
 have UB:1≤(aL zz).length:=by rw[←eO];exact DN
 have hA:=wO hR hf (w':=w.alloc (.cells (madeCells zz.cells (c.toNat*zz.cells.size)) e)) (arr:=madeCells zz.cells (c.toNat*zz.cells.size)) (e:=e) (fz:=(0,0)) rfl ⟨rfl,rfl,rfl⟩
  (cs:=cM c.toNat (aL zz)) (fM:=(aL zz).length) (OH:=false) (by rw[ahP,uD];exact Nat.le_refl _) (fun j hj=>by
   have:=(wC (m:=m) c.toNat V5 UB).2 j hj
   rwa [←zJ,oN]) (Qq _ GC UB) (fun j _ h=>by simp at h)
 refine cF.value pG ?_ hA.1 (hA.2 lo)
 exact .slice _ 0 _ _ _ _ _ (bQ m _ _) (by omega) (Nat.le_refl _) (fun _=>rfl) (.inr ⟨rfl,by simp only[ahP];omega⟩)
theorem X5 {t:TypeId} {agg:Bool} {size nb lo n:Nat} {z cs:List Value} {parts:List (Nat×Operand)} {ρ:Env} {a:Act} (ht:jZ P t=some (agg,size,z,nb)) (GC:z.all gO=true) (V5:z.all kS=true) (Tr:size=z.length) (DN:1≤size) (hn:n*size≤16777216)
  (abK:vP ((List.range n).map fun i=>(i*z.length,z.length)) (cM n z) (parts.map fun(i,x)=>(i,ev ρ x))=some cs) (B1:cs.all gO=true) (hr:∀p∈parts,RV m (ev ρ p.2) (a.eval p.2))
  (hR:Rel m L0 H w) (hf:m H.length=none) :
  cF P (do pure (.value (←Instr.buildSlice t n (parts.toArray.map fun(i,x)=>(i,a.eval x))))) L0 lo m H w (.slice (some ⟨H.length,0,none⟩) n n) (H++[.row cs z.length false]):=by
 obtain⟨e,hu,HX⟩:=jK ht
 obtain⟨i,d,zz,hi,hd,Gt,rfl,rfl,rfl,rfl⟩:=iU HX
 have CO:i.size=zz.cells.size:=by rw[Tr,eO]
 have UB:1≤(aL zz).length:=by rw[←eO,←CO];exact DN
 have KO:∀j q,((List.range n).map fun i=>(i*(aL zz).length,(aL zz).length))[j]? = some q→(fun i'=>some (i'*i.size,i.size):Nat→Option (Nat×Nat)) j=some q:=by
  intro j q hj
  simp only[List.getElem?_map,Option.map_eq_some_iff] at hj
  obtain⟨k,hk,rfl⟩:=hj
  have hk':=(List.getElem?_eq_some_iff.1 hk)
  obtain⟨hk1,hk2⟩:=hk'
  simp at hk2
  subst hk2
  rw[←Tr]
 have hz:RL m (cM n (aL zz)) ((Array.range (n*i.size)).map (zz.cells[· % zz.cells.size]!)).toList:=by
  have:=wC (m:=m) n V5 UB
  rw[CO]
  have e1:=Hx zz.cells n (by rw[←CO];exact DN)
  rw[fT] at e1
  show RL m _ (madeCells zz.cells (n*zz.cells.size)).toList
  rw[e1]
  exact this
 obtain⟨KE,h1,h2⟩:=P0 (m:=m) _ _ KO (parts.map fun(i,x)=>(i,ev ρ x)) (parts.map fun(i,x)=>(i,a.eval x)) _ _ cs
  (by simp[Function.comp_def]) (by simpa[Function.comp_def] using RL.map (l:=parts) (f:=fun p=>ev ρ p.2) (g:=fun p=>a.eval p.2) hr) hz abK
 have hlen:cs.length=n*(aL zz).length:=by rw[NN _ _ _ _ abK,uD]
 have emap:(Array.map (fun x:Nat×Operand=>(x.1,a.eval x.2)) parts.toArray).toList=parts.map fun(i,x)=>(i,a.eval x):=by simp
 have RQ:¬(2^24<n*i.size):=by omega
 have pG:(Instr.buildSlice t n (parts.toArray.map fun(i,x)=>(i,a.eval x))).run P w = .ok (.slice (some ⟨w.heap.size,0,none⟩) n n) (w.alloc (.cells KE e)):=by
  have Vk:Instr.fill (fun i'=>some (i'*i.size,i.size)) ((Array.range (n*i.size)).map (zz.cells[· % zz.cells.size]!)) (Array.map (fun x:Nat×Operand=>(x.1,a.eval x.2)) parts.toArray).toList=some KE:=by rw[emap];exact h1
  by_cases WZ:n*i.size=0
  ·rw[WZ] at Vk
   simp only[show ∀f:Nat→Value,(Array.range 0).map f = #[] from fun f=>by simp] at Vk
   unfold Instr.buildSlice
   simp only[Sem.run_bind,run_underlying hu,Result.andThen_ok,run_sizeOf e i hi,WZ,if_true,Sem.run_pure,show ¬(0>2^24) by omega,if_false]
   rw[show ∀f:Nat→Value,(Array.range 0).map f = #[] from fun f=>by simp]
   simp only[Vk]
   simp[newRow]
  ·unfold Instr.buildSlice
   simp only[Sem.run_bind,run_underlying hu,Result.andThen_ok,run_sizeOf e i hi,WZ,if_false,Sem.run_pure,gt_iff_lt,RQ,zeroValue,typeInfo,run_program,hi,Gt]
   simp only[Vk]
   simp[newRow]
 have hrs:KE.size=n*(aL zz).length:=by rw[←hlen];simpa using h2.1.symm
 have hA:=wO hR hf (w':=w.alloc (.cells KE e)) (arr:=KE) (e:=e) (fz:=(0,0)) rfl ⟨rfl,rfl,rfl⟩ (cs:=cs) (fM:=(aL zz).length) (OH:=false)
  (by rw[hlen,hrs];exact Nat.le_refl _) (fun j hj=>by rw[←zJ];exact h2.2 j hj) B1 (fun j _ h=>by simp at h)
 refine cF.value pG ?_ hA.1 (hA.2 lo)
 exact .slice _ 0 _ _ _ _ _ (bQ m _ _) (Nat.le_refl _) (Nat.le_refl _) (fun _=>rfl) (.inr ⟨rfl,by simp only[hrs];omega⟩)
theorem Sn (g:Value→ByteArray→Sem (ForInStep ByteArray)) (hg:∀n s,g (.int .u8 n) s=pure (ForInStep.yield (s.push (UInt8.ofNat n.toNat)))):∀(cs rs:List Value) (bs:List UInt8) (acc:ByteArray),RL m cs rs→tI cs=some bs→∀w,
  (forIn rs acc g).run P w = .ok ⟨(acc.data.toList++bs).toArray⟩ w:=by
 intro cs
 induction cs with
 |
  nil =>
  intro rs bs acc hr hb w
  have e0:rs=[]:=List.eq_nil_of_length_eq_zero hr.1.symm
  subst e0
  cases hb
  simp
 |
  cons c cs ih =>
  intro rs bs acc hr hb w
  cases rs with
  | nil=>exact absurd hr.1 (by simp)
  |
   cons r rs =>
   obtain⟨hc,Kx⟩:=hr.jT
   unfold tI at hb
   split at hb
   ·rename_i heq;cases heq
   ·rename_i n rest heq
    cases heq
    cases hc
    cases h2:tI cs with
    | none=>rw[h2] at hb;cases hb
    |
     some bs' =>
     rw[h2] at hb
     cases hb
     simp only[List.forIn_cons,hg,Sem.run_bind,Sem.run_pure,Result.andThen_ok]
     rw[ih rs bs' _ Kx h2 w]
     simp[ByteArray.push]
   ·cases hb
theorem WM {s d e:TypeId} {rp:Value} {lo n b off c:Nat} {cs:List Value} {bs:List UInt8} (hs:P.underlying s=some (.slice e)) (hd:P.underlying d=some .string) (he:P.underlying e=some (.int .u8))
  (D5:H.read b off n=some cs) (hb:tI cs=some bs) (hR:Rel m L0 H w) (hp:RV m (.slice (some ⟨b,off,none⟩) n c) rp) :
  cF P (do pure (.value (←convert s d rp))) L0 lo m H w (.string ⟨bs.toArray⟩) H:=by
 cases hp with
 |
  slice _ _ _ _ l ra rc hm hn hc hx ha =>
  obtain⟨rs,h1,h2,_,h3⟩:=yK hR hm D5
  have ahZ:(loadCells ra n).run P w = .ok rs.toArray w:=by
   rcases ha with ha | ⟨rfl,ha⟩
   ·have h0:n=0:=by omega
    subst h0
    have e0:rs=[]:=List.eq_nil_of_length_eq_zero h2
    subst e0
    rfl
   ·rw[←h2]
    exact run_loadCells_list w _ rs h3
  refine cF.value (rv := .string ⟨bs.toArray⟩) (w':=w) (m':=m) ?_ (.str _) hR (Trans.refl lo m H w)
  simp only[convert,Sem.run_bind,run_underlying hs,run_underlying hd,Result.andThen_ok,run_underlying he,Conv.bytesToString,ahZ,←Array.forIn_toList]
  rw[Sn (P:=P) (m:=m) _ (fun n s=>rfl) cs rs bs ByteArray.empty h1 hb w]
  simp
theorem L8 {t e:TypeId} {i:TypeInfo} (hu:P.underlying t=some (.slice e)) (hi:P.info? e=some i) {a:Option Addr} {n c:Nat} {lo BP mx:Option Value} {l h k:Nat}
  (hb:(Instr.sliceBounds true n c lo BP mx).run P w = .ok (l,h,k) w) :
  (Instr.sliceAt t (.slice a n c) lo BP mx).run P w = .ok (.slice (if k=l then a else a.map (·.add (l*i.size))) (h-l) (k-l)) w:=by
 have h1:(Instr.sliceAt t (.slice a n c) lo BP mx).run P w=(Instr.slice t (.slice a n c) lo BP mx).run P w:=by
  unfold Instr.sliceAt
  rw[Sem.run_bind,run_underlying hu,Result.andThen_ok]
 rw[h1]
 unfold Instr.slice
 rw[Sem.run_bind,run_underlying hu,Result.andThen_ok]
 simp[hb,run_sizeOf e i hi]
theorem YO {t e:TypeId} {i:TypeInfo} {lo:Nat} {x rx v:Value} {l h mx l' h' mx':Option Value} {H':aE} (hu:P.underlying t=some (.slice e)) (hi:P.info? e=some i)
  (hs:BT i.size x l h mx H=some (v,H')) (hx:RV m x rx) (hl:RO m l l') (hh:RO m h h') (hm:RO m mx mx') (hR:Rel m L0 H w) (hf:∀b,H.length≤b→b<H'.length→m b=none) :
  cF P (do pure (.value (←Instr.sliceAt t rx l' h' mx'))) L0 lo m H w v H':=by
 unfold BT at hs
 split at hs
 ·rename_i n c
  split at hs
  ·rename_i h0
   obtain⟨rfl,rfl⟩:=h0
   cases hx
   split at hs
   ·cases hs
   ·rename_i M hM
    split at hs
    ·cases hs
    ·rename_i hb hhb
     split at hs
     ·cases hs
     ·rename_i lb DV
      cases hs
      have key:∃k1 k2 k3,(Instr.sliceBounds true 0 0 l' h' mx').run P w = .ok (k1,k2,k3) w∧k1=0∧k2=0∧k3=0:=by
       rcases oB (P:=P) hM hm with⟨rfl,rfl,e1⟩ | ⟨_,r1,rfl,rfl,q1,e1⟩<;>rcases oB (P:=P) hhb hh with⟨_,rfl,e2⟩ | ⟨_,r2,_,rfl,q2,e2⟩<;>rcases oB (P:=P) DV hl with⟨_,rfl,e3⟩ | ⟨_,r3,_,rfl,q3,e3⟩
       ·cases e1;cases e2;cases e3
        exact⟨0,0,0,rfl,rfl,rfl,rfl⟩
       ·cases e1;cases e2
        exact⟨lb,0,0,by simp[Instr.sliceBounds,e3 0 (Nat.le_refl _)],by omega,rfl,rfl⟩
       ·cases e1;cases e3
        exact⟨0,hb,0,by simp[Instr.sliceBounds,e2 0 (Nat.le_refl _)],rfl,by omega,rfl⟩
       ·cases e1
        exact⟨lb,hb,0,by simp[Instr.sliceBounds,e2 0 (Nat.le_refl _),e3 hb (Nat.le_refl _)],by omega,by omega,rfl⟩
       ·cases e2
       ·cases e2
       ·cases e3
        exact⟨0,hb,M,by simp[Instr.sliceBounds,e1 0 (Nat.le_refl _),e2 M (Nat.le_refl _)],rfl,by omega,by omega⟩
       ·exact⟨lb,hb,M,by simp[Instr.sliceBounds,e1 0 (Nat.le_refl _),e2 M (Nat.le_refl _),e3 hb (Nat.le_refl _)],by omega,by omega,by omega⟩
      obtain⟨k1,k2,k3,hk,rfl,rfl,rfl⟩:=key
      exact cF.value (L8 hu hi hk) (by simpa using RV.Ik) hR (Trans.refl lo m H w)
  ·cases hs
 ·rename_i b o n c
  cases hx with
  |
   slice _ _ _ _ lc ra rc Sk V6 hcr hxp ha =>
   split at hs
   ·rename_i cells es p SI
    obtain⟨g1,g2,g3,g4⟩:=hR.row b lc cells es p Sk SI
    split at hs
    ·rename_i N6
     subst N6
     split at hs
     ·cases hs
     ·rename_i M hM
      split at hs
      ·cases hs
      ·rename_i hb hhb
       split at hs
       ·cases hs
       ·rename_i lb DV
        have key:∃k3,(Instr.sliceBounds true n rc l' h' mx').run P w = .ok (lb,hb,k3) w∧lb≤hb∧hb≤M∧M≤c∧((mx=none∧k3=rc∧M=c)∨(mx.isSome=true∧k3=M)):=by
         rcases oB (P:=P) hM hm with⟨rfl,rfl,e1⟩ | ⟨_,r1,rfl,rfl,q1,e1⟩<;>rcases oB (P:=P) hhb hh with⟨_,rfl,e2⟩ | ⟨_,r2,_,rfl,q2,e2⟩<;>rcases oB (P:=P) DV hl with⟨_,rfl,e3⟩ | ⟨_,r3,_,rfl,q3,e3⟩
         ·cases e1;cases e2;cases e3
          exact⟨rc,rfl,Nat.zero_le _,V6,Nat.le_refl _,.inl ⟨rfl,rfl,rfl⟩⟩
         ·cases e1;cases e2
          exact⟨rc,by simp[Instr.sliceBounds,e3 n (Nat.le_refl _)],q3,V6,Nat.le_refl _,.inl ⟨rfl,rfl,rfl⟩⟩
         ·cases e1;cases e3
          exact⟨rc,by simp[Instr.sliceBounds,e2 rc hcr],Nat.zero_le _,q2,Nat.le_refl _,.inl ⟨rfl,rfl,rfl⟩⟩
         ·cases e1
          exact⟨rc,by simp[Instr.sliceBounds,e2 rc hcr,e3 hb (Nat.le_refl _)],q3,q2,Nat.le_refl _,.inl ⟨rfl,rfl,rfl⟩⟩
         ·cases e2
         ·cases e2
         ·cases e3
          exact⟨M,by simp[Instr.sliceBounds,e1 rc hcr,e2 M (Nat.le_refl _)],Nat.zero_le _,q2,q1,.inr ⟨rfl,rfl⟩⟩
         ·exact⟨M,by simp[Instr.sliceBounds,e1 rc hcr,e2 M (Nat.le_refl _),e3 hb (Nat.le_refl _)],q3,q2,q1,.inr ⟨rfl,rfl⟩⟩
        obtain⟨k3,hk,hlh,hhM,hMc,JH⟩:=key
        have pG:=L8 (a:=some ra) hu hi hk
        have place:k3-lb=0∨((if k3=lb then some ra else (some ra).map (·.add (lb*i.size)))=some (⟨lc.rb,lc.base+(o+lb*i.size),none⟩:Addr)∧lc.base+(o+lb*i.size)+(k3-lb)*lc.fM≤lc.Nb):=by
         by_cases hz:k3-lb=0
         ·exact .inl hz
         ·right
          have hk3:k3≤rc:=by rcases JH with⟨_,rfl,_⟩ | ⟨_,rfl⟩<;>omega
          rcases ha with ha | ⟨rfl,ha⟩
          ·omega
          ·rw[if_neg (by omega)]
           refine⟨by simp[Addr.add_lit,Nat.add_assoc],?_⟩
           rw[g1] at ha ⊢
           have e1:(k3-lb)*i.size=k3*i.size-lb*i.size:=Nat.sub_mul _ _ _
           have e2:lb*i.size≤k3*i.size:=Nat.mul_le_mul_right _ (by omega)
           have e3:k3*i.size≤rc*i.size:=Nat.mul_le_mul_right _ hk3
           omega
        obtain⟨ra',aiM⟩:∃ra',(if k3=lb then some ra else (some ra).map (·.add (lb*i.size)))=some ra':=by split<;>exact⟨_,rfl⟩
        rw[aiM] at pG
        have agC:k3-lb=0∨(ra'=⟨lc.rb,lc.base+(o+lb*i.size),none⟩∧lc.base+(o+lb*i.size)+(k3-lb)*lc.fM≤lc.Nb):=by
         rcases place with hp | ⟨hp1,hp2⟩
         ·exact .inl hp
         ·rw[aiM] at hp1
          exact .inr ⟨by injection hp1,hp2⟩
        split at hs
        ·rename_i apY
         cases hs
         obtain⟨akE,hMl⟩:=apY
         rcases JH with⟨rfl,_⟩ | ⟨_,rfl⟩
         ·cases akE
         ·have hA:=Vc hR (hf H.length (Nat.le_refl _) (by simp)) Sk i.size
          refine cF.value (rv := .slice (some ra') 0 0) (by rw[pG];congr 2<;>omega) ?_ hA.1 (hA.2 lo)
          exact .slice _ 0 0 0 _ _ 0 (bQ m _ _) (Nat.le_refl _) (Nat.le_refl _) (fun _=>rfl) (.inl rfl)
        ·cases hs
         refine cF.value pG ?_ hR (Trans.refl lo m H w)
         refine .slice b _ _ _ lc _ _ Sk (by omega) ?_ ?_ agC
         ·rcases JH with⟨_,rfl,rfl⟩ | ⟨_,rfl⟩<;>omega
         ·intro ho
          have:=hxp ho
          rcases JH with⟨_,rfl,rfl⟩ | ⟨_,rfl⟩<;>omega
    ·cases hs
   ·cases hs
 ·cases hs
end
end Go.PM
namespace Go.PM
section
variable {P:Program} {m:dA} {L0:Nat} {H:aE} {w:World}
theorem So {t:TypeId} {i:TypeInfo} {lo b o:Nat} {v r rp:Value} {H':aE} (hi:P.info? t=some i) (hp:RV m (.pointer (some ⟨b,o,none⟩)) rp) (hv:RV m v r) (hs:(aL v).length=i.size)
  (hw:H.write lo b o (aL v)=some H') (hR:Rel m L0 H w) (iD:L0≤lo) :
  cF P (do Instr.storeAt t rp r;pure .skip) L0 lo m H w undef H':=by
 cases hp with
 |
  ptr _ _ l hm =>
  obtain⟨w',s1,s2,s3⟩:=Dn P hR iD hm hw hv.aL
  refine⟨undef,w',m,.inr ⟨?_,rfl⟩,RV.undef m,s2,s3⟩
  have CO:r.cells.size=i.size:=by rw[eO,←hv.aL.1,hs]
  have h1:(Instr.storeAt t (.pointer (some ⟨l.rb,l.base+o,none⟩)) r).run P w = .ok () w':=by
   show (storeVar t ⟨l.rb,l.base+o,none⟩ r).run P w=_
   unfold storeVar
   simp only[Sem.run_bind,run_sizeOf t i hi,Result.andThen_ok,CO,ne_eq,not_true_eq_false,if_false,fT]
   exact s1
  rw[Sem.run_bind,h1]
  rfl
theorem GM {pv rv:Value} {k:Nat} (h:rQ pv=some k) (hr:RV m pv rv):Builtin.lenOf rv=pure k:=by
 unfold rQ at h
 split at h
 ·cases h;cases hr<;>rfl
 ·cases h;cases hr;rfl
 ·cases h
theorem BM (a b:Array Value) (xs:List Value) (h:a.toList=xs) (i:Nat) (hi:i<xs.length):(a++b).getD i undef=xs.getD i undef:=by
 subst h
 have:i<a.size:=by simpa using hi
 simp[Array.getD_eq_getD_getElem?,Array.getElem?_append_left this,List.getD_eq_getElem?_getD]
theorem Yf {t u ty:TypeId} {agg:Bool} {size bytes lo k:Nat} {z:List Value} {d:TypeDesc} {x y rx ry v:Value} {new:List Value} {H':aE} (ht:jZ P t=some (agg,size,z,bytes)) (hu:P.underlying u=some d) (hd:Kd d=true)
  (hk:rQ y=some k) (FO:jH H size k y=some new) (vD:dS lo size bytes x k new H=some (v,H')) (hx:RV m x rx) (hy:RV m y ry) (Tr:size=z.length)
  (hR:Rel m L0 H w) (iD:L0≤lo) (hf:∀b,H.length≤b→b<H'.length→m b=none) :
  cF P (do pure (.value (←Builtin.append_ #[t,u] ty #[rx,ry]))) L0 lo m H w v H':=by
 obtain⟨e,HX,MS⟩:=jK ht
 obtain⟨i,de,zz,hi,_,Gt,rfl,rfl,rfl,rfl⟩:=iU MS
 obtain⟨pS,h1,h2,h3⟩:=HL FO hk (Nat.le_refl _) hR hy
 have hl:=GM hk hy
 have DB:1≤i.bytes:=by
  unfold dS at vD
  split at vD
  ·rename_i h;exact h.1
  ·cases vD
 have hnl:new.length=k*i.size:=by
  unfold dS at vD
  split at vD
  ·rename_i h;exact h.2.2.2
  ·cases vD
 obtain⟨rv,w',m',g1,g2,g3,g4⟩:=H9 (P:=P) (s:=Builtin.append_ #[t,u] ty #[rx,ry]) (e:=e) vD hR iD hx h1 hf
  (fun a n c w' Ip BL uU=>by
   subst Ip
   exact Nc HX hu hd hi hl (h3 w rfl) BL uU)
  (fun Ip hk0=>by
   subst Ip
   subst hk0
   exact QB HX hu hd hi hl (h3 w rfl))
  (fun base n c BX Ip Yd fU hg hb=>by
   subst Ip
   refine⟨grownCap w (n+k) c e,_,grownCap_ge w _ _ _,MW HX hu hd hi Gt hl Yd (h3 w.drew rfl) hg DB hb,?_,?_⟩
   ·have DA:=grownCap_ge w (n+k) c e
    have D4:pS.length=k*i.size:=by rw[←h1.1,hnl]
    simp only[Array.size_append,List.size_toArray,size_zeroCells,fU,D4]
    rw[←eO] at Tr
    rw[←Tr,←Nat.add_mul,←Nat.add_mul]
    congr 1
    omega
   ·intro j hj
    exact BM _ _ _ (by simp) j hj)
 exact cF.value g1 g2 g3 g4
section
variable {t u ty e:TypeId} {ku:IntKind} {i:TypeInfo} {zz:Value} {k:Nat}
theorem Fj {k:Nat} (h:k≤140737488355328):IntKind.i64.wrap (k:Int)=(k:Int):=by rw[IntKind.wrap_i64];omega
theorem KV (ht:P.underlying t=some (.slice e)) (hu:P.underlying u=some (.int ku)) (hi:P.info? e=some i) (Gt:i.zero=some zz) (hk:k≤140737488355328) (R6:k*i.bytes≤140737488355328)
  {a:Addr} {n c:Nat} {w':World} (BL:n+k≤c) (hz:k*i.size=0→Builtin.zeroCells zz.cells k = #[]) (uU:(storeCells (a.add (n*i.size)) (Builtin.zeroCells zz.cells k).toList).run P w = .ok () w') :
  (Builtin.append_ #[t,u] ty #[.slice (some a) n c,.int .i64 k]).run P w = .ok (.slice (some a) (n+k) c) w':=by
 have h0:¬((k:Int)<0):=by omega
 have hb:¬(281474976710656<(k:Int)*(i.bytes:Int)):=by rw[←Int.natCast_mul];omega
 by_cases DN:k*i.size=0
 ·rw[hz DN] at uU
  simp[Builtin.append_,run_underlying ht,run_underlying hu,run_sizeOf e i hi,asInt,asIntOf,Fj hk,typeInfo,hi,h0,hb,BL,DN,uU]
 ·simp[Builtin.append_,run_underlying ht,run_underlying hu,run_sizeOf e i hi,asInt,asIntOf,Fj hk,typeInfo,hi,h0,hb,BL,DN,zeroValue,Gt,uU]
theorem MT (ht:P.underlying t=some (.slice e)) (hu:P.underlying u=some (.int ku)) (hi:P.info? e=some i) :
  (Builtin.append_ #[t,u] ty #[.slice none 0 0,.int .i64 (0:Nat)]).run P w = .ok (.slice none 0 0) w:=by
 have hw:IntKind.i64.wrap 0=0:=rfl
 simp[Builtin.append_,run_underlying ht,run_underlying hu,run_sizeOf e i hi,asInt,asIntOf,hw,typeInfo,hi]
theorem KT (ht:P.underlying t=some (.slice e)) (hu:P.underlying u=some (.int ku)) (hi:P.info? e=some i) (Gt:i.zero=some zz) (hk:k≤140737488355328) (R6:k*i.bytes≤140737488355328)
  {base:Option Addr} {n c:Nat} {BX:List Value} (Yd:(Builtin.firstCells i.size n (.slice base n c)).run P w.drew = .ok BX.toArray w.drew) (hz:k*i.size=0→Builtin.zeroCells zz.cells k = #[])
  (hg:c<n+k) (DB:1≤i.bytes) (Km:(n+k)*i.bytes≤140737488355328) :
  (Builtin.append_ #[t,u] ty #[.slice base n c,.int .i64 k]).run P w = .ok (.slice (some ⟨w.heap.size,0,none⟩) (n+k) (grownCap w (n+k) c e))
   (w.drew.alloc (.cells (BX.toArray++Builtin.zeroCells zz.cells k++Builtin.zeroCells zz.cells (grownCap w (n+k) c e-(n+k))) e)):=by
 have wT:=growslice_fits (bytes:=i.bytes) hg Km
 have h0:¬((k:Int)<0):=by omega
 have hb:¬(281474976710656<(k:Int)*(i.bytes:Int)):=by rw[←Int.natCast_mul];omega
 have h1:¬(n+k≤c):=by omega
 have h2:¬(281474976710656<Builtin.nextslicecap (n+k) c*i.bytes):=by omega
 have h4:n+k≤140737488355328:=Nat.le_trans (Nat.le_mul_of_pos_right _ DB) Km
 have h3:¬(9223372036854775807<(n:Int)+(k:Int)):=by omega
 by_cases DN:k*i.size=0
 ·have e0:=hz DN
  simp[Builtin.append_,run_underlying ht,run_underlying hu,run_sizeOf e i hi,asInt,asIntOf,Fj hk,typeInfo,hi,h0,hb,h1,h2,h3,e0,zeroValue,Gt,Question.forced,Yd,newRow,grownCap]
 ·simp[Builtin.append_,run_underlying ht,run_underlying hu,run_sizeOf e i hi,asInt,asIntOf,Fj hk,typeInfo,hi,h0,hb,h1,h2,h3,DN,zeroValue,Gt,Question.forced,Yd,newRow,grownCap]
end
theorem UZ {t u ty:TypeId} {agg:Bool} {size bytes lo:Nat} {z:List Value} {ku:IntKind} {n:Int} {x rx v:Value} {H':aE} (ht:jZ P t=some (agg,size,z,bytes)) (hu:P.underlying u=some (.int ku))
  (hn:0≤n∧n*bytes≤140737488355328) (vD:dS lo z.length bytes x n.toNat (cM n.toNat z) H=some (v,H')) (hx:RV m x rx) (Tr:size=z.length) (GC:z.all gO=true) (V5:z.all kS=true) (DN:1≤z.length)
  (hR:Rel m L0 H w) (iD:L0≤lo) (hf:∀b,H.length≤b→b<H'.length→m b=none) :
  cF P (do pure (.value (←Builtin.append_ #[t,u] ty #[rx,.int .i64 n]))) L0 lo m H w v H':=by
 obtain⟨e,HX,MS⟩:=jK ht
 obtain⟨i,de,zz,hi,_,Gt,rfl,rfl,rfl,rfl⟩:=iU MS
 obtain⟨k,rfl⟩:=Int.eq_ofNat_of_zero_le hn.1
 simp only[Int.toNat_natCast] at vD
 have DB:1≤i.bytes:=by
  unfold dS at vD
  split at vD
  ·rename_i h;exact h.1
  ·cases vD
 have R6:k*i.bytes≤140737488355328:=by have:=hn.2;omega
 have hk:k≤140737488355328:=Nat.le_trans (Nat.le_mul_of_pos_right _ DB) R6
 have CO:i.size=zz.cells.size:=by rw[Tr,eO]
 have UB:1≤zz.cells.size:=by rw[eO];exact DN
 have mZ:(Builtin.zeroCells zz.cells k).toList=cM k (aL zz):=by rw[Fo _ _ UB,fT]
 have akA:k*i.size=0→Builtin.zeroCells zz.cells k = #[]:=by
  intro h0
  apply Array.ext'
  rw[mZ]
  exact List.eq_nil_of_length_eq_zero (by rw[uD,←Tr];exact h0)
 obtain⟨rv,w',m',g1,g2,g3,g4⟩:=H9 (P:=P) (s:=Builtin.append_ #[t,u] ty #[rx,.int .i64 k]) (e:=e) (pS:=cM k (aL zz)) vD hR iD hx (wC k V5 DN) hf
  (fun a n c w' Ip BL uU=>by
   subst Ip
   exact KV HX hu hi Gt hk R6 BL akA (by rw[mZ,Tr];exact uU))
  (fun Ip hk0=>by
   subst Ip
   subst hk0
   exact MT HX hu hi)
  (fun base n c BX Ip Yd fU hg hb=>by
   subst Ip
   refine⟨grownCap w (n+k) c e,_,grownCap_ge w _ _ _,KT HX hu hi Gt hk R6 (by rw[Tr];exact Yd) akA hg DB hb,?_,?_⟩
   ·have DA:=grownCap_ge w (n+k) c e
    simp only[Array.size_append,List.size_toArray,size_zeroCells,fU,eO]
    rw[←Nat.add_mul,←Nat.add_mul]
    congr 1
    omega
   ·intro j hj
    exact BM _ _ _ (by simp[mZ]) j hj)
 exact cF.value g1 g2 g3 g4
theorem UE {t ty:TypeId} {ts:List TypeId} {agg:Bool} {size bytes lo b o d c k:Nat} {z new:List Value} {y rx ry:Value} {H':aE} (ht:jZ P t=some (agg,size,z,bytes))
  (hk:rQ y=some k) (FO:jH H size (Nat.min k d) y=some new) (hw:H.write lo b o new=some H') (hx:RV m (.slice (some ⟨b,o,none⟩) d c) rx) (hy:RV m y ry)
  (hR:Rel m L0 H w) (iD:L0≤lo) :
  cF P (do pure (.value (←Builtin.copy_ (t::ts).toArray ty #[rx,ry]))) L0 lo m H w (.int .i64 (Nat.min k d)) H':=by
 obtain⟨e,HX,MS⟩:=jK ht
 obtain⟨i,de,zz,hi,_,Gt,rfl,rfl,rfl,rfl⟩:=iU MS
 obtain⟨pS,h1,h2,h3⟩:=HL (P:=P) FO hk (Nat.min_le_left _ _) hR hy
 have hl:=GM hk hy
 cases hx with
 |
  slice _ _ _ _ l ra rc hm hn hc hxp ha =>
  rcases ha with ha | ⟨rfl,ha⟩
  ·have CP:d=0:=by omega
   subst CP
   have ZH:Nat.min k 0=0:=Nat.min_zero k
   rw[ZH] at FO h3 ⊢
   have mZ:new=[]:=by
    have:pS.length=new.length:=h1.1.symm
    unfold jH at FO
    split at FO
    ·obtain⟨_,_,_,_,_,_,hlen⟩:=LH FO
     exact List.eq_nil_of_length_eq_zero (by simpa using hlen)
    ·split at FO
     ·cases FO;rfl
     ·cases FO
    ·split at FO
     ·cases FO;simp
     ·cases FO
    ·cases FO
   subst mZ
   have hrn:pS=[]:=List.eq_nil_of_length_eq_zero h1.1.symm
   subst hrn
   have hHH:H'=H:=by
    obtain⟨cs,e',p',q1,q2,q3,q4,rfl⟩:=Bc hw
    apply List.ext_getElem?
    intro j
    by_cases hj:b=j
    ·subst hj
     rw[List.getElem?_set_self (List.getElem?_eq_some_iff.1 q1).1,q1]
     simp[iV]
    ·rw[List.getElem?_set_ne hj]
   rw[hHH]
   refine cF.value (rv := .int .i64 0) (w':=w) ?_ (.int _ _) hR (Trans.refl lo m _ w)
   have hf0:=h3 w rfl
   simp[Builtin.copy_,run_underlying HX,hl,run_sizeOf e i hi,goInt,hf0,storeCells]
  ·obtain⟨w',s1,s2,s3⟩:=Dn P hR iD hm hw h1
   refine cF.value (rv := .int .i64 (Nat.min k d)) ?_ (.int _ _) s2 s3
   have hf0:=h3 w rfl
   unfold Builtin.copy_
   simp only[List.getElem?_toArray,List.getElem?_cons_zero,List.getElem?_cons_succ,Sem.run_bind,run_underlying HX,Result.andThen_ok,hl,Sem.run_pure,run_sizeOf e i hi]
   rw[hf0]
   simp only[Result.andThen_ok,s1,goInt]
theorem R7 {t ty e:TypeId} {ts:List TypeId} {i:TypeInfo} {zz:Value} {lo b o n c:Nat} {rx:Value} {H':aE} (HX:P.underlying t=some (.slice e)) (hi:P.info? e=some i) (Gt:i.zero=some zz)
  (WZ:n≠0) (hw:H.write lo b o (cM n (aL zz))=some H') (hx:RV m (.slice (some ⟨b,o,none⟩) n c) rx) (V5:(aL zz).all kS=true) (DN:1≤(aL zz).length) (hR:Rel m L0 H w) (iD:L0≤lo) :
  cF P (do pure (.value (←Builtin.clear_ (t::ts).toArray ty #[rx]))) L0 lo m H w undef H':=by
 cases hx with
 |
  slice _ _ _ _ l ra rc hm hn hc hxp ha =>
  rcases ha with ha | ⟨rfl,ha⟩
  ·omega
  ·obtain⟨w',s1,s2,s3⟩:=Dn P hR iD hm hw (wC n V5 DN)
   have mZ:(Builtin.zeroCells zz.cells n).toList=cM n (aL zz):=by rw[Fo _ _ (by rw[eO];exact DN),fT]
   refine cF.value (rv:=undef) ?_ (RV.undef m) s2 s3
   rw[←mZ] at s1
   obtain⟨n',rfl⟩:∃n',n=n'+1:=⟨n-1,by omega⟩
   simp[Builtin.clear_,run_underlying HX,zeroValue,typeInfo,hi,Gt,s1,undef]
theorem HA {t ty e:TypeId} {ts:List TypeId} {lo c:Nat} {a:Option Addr} {rx:Value} (HX:P.underlying t=some (.slice e)) (hx:RV m (.slice a 0 c) rx) (hR:Rel m L0 H w) :
  cF P (do pure (.value (←Builtin.clear_ (t::ts).toArray ty #[rx]))) L0 lo m H w undef H:=by
 refine cF.value (rv:=undef) (w':=w) ?_ (RV.undef m) hR (Trans.refl lo m _ w)
 cases hx<;>simp[Builtin.clear_,run_underlying HX,undef]
end
end Go.PM
namespace Go.PM
section
variable {P:Program} {m:dA} {L0:Nat} {H:aE} {w:World}
theorem Ca {po:nI} {ρ:Env} {v:Value} {H':aE} (h:(iS po ρ).map (Out.val · H)=some (.val v H')):iS po ρ=some v∧H'=H:=by
 cases hp:iS po ρ with
 | none=>rw[hp] at h;cases h
 | some u=>rw[hp] at h;cases h;exact⟨rfl,rfl⟩
def tW:nI→Bool
 | .load .. | .sub .. | .b2s _ | .new _ | .box _ | .make .. | .lit .. | .call .. | .store .. | .app .. | .appz .. | .copy .. | .clear .. | .callv .. => false
 | _=>true
theorem xY {lo:Nat} {po:nI} {ρ:Env} (h:tW po=true):pop lo po ρ H=(iS po ρ).map (.val · H):=by
 cases po<;>first | rfl | cases h
theorem OR {pv rv:Value} {k:Nat} (size:Nat) (h:rQ pv=some k) (hr:RV m pv rv):(Builtin.firstCells size 0 rv).run P w = .ok #[] w:=by
 unfold rQ at h
 split at h
 ·cases hr
  ·rfl
  ·simp only[Builtin.firstCells,Nat.zero_mul]
   rfl
 ·cases hr
  simp[Builtin.firstCells]
 ·cases h
theorem TP {o:Oper} {po:nI} {ρ:Env} {a:Act} {lo:Nat} {v:Value} {H':aE} (hp:pV P o.op=some po) (hv:pop lo po ρ H=some (.val v H')) (hr:∀x∈o.op.operands,RV m (ev ρ x) (a.eval x))
  (hR:Rel m L0 H w) (iD:L0≤lo) (hf:∀b,H.length≤b→b<H'.length→m b=none):cF P (execOp a.eval o) L0 lo m H w v H':=by
 by_cases iZ:tW po=true
 ·rw[xY iZ] at hv
  obtain⟨h1,rfl⟩:=Ca hv
  obtain⟨rv,h2,h3⟩:=WR hp h1 hr
  exact⟨rv,w,m,.inl (h3 w),h2,hR,Trans.refl lo m _ w⟩
 obtain⟨dst,op,type,pos,after,guard⟩:=o
 unfold pV at hp
 simp only at hp hr ⊢
 split at hp
 case isFalse=>cases hp
 cases op with
 | move x=>cases hp;exact absurd rfl iZ
 | assign x=>cases hp;exact absurd rfl iZ
 | pick c x y=>cases hp;exact absurd rfl iZ
 |
  binOp op t x y yt =>
  unfold BB at hp
  simp only at hp
  split at hp
  ·cases hp;exact absurd rfl iZ
  ·cases hp;exact absurd rfl iZ
  ·split at hp<;>first | (cases hp;done) | (cases hp;exact absurd rfl iZ)
  ·split at hp<;>first | (cases hp;done) | (split at hp<;>first | (cases hp;done) | (cases hp;exact absurd rfl iZ))
  ·split at hp<;>first | (cases hp;done) | (cases hp;exact absurd rfl iZ)
  ·cases hp
 | unOp op t x=>cases hp;exact absurd rfl iZ
 | extract x i=>cases hp;exact absurd rfl iZ
 |
  convert s d x =>
  have hx:=hr x (by simp[Op.operands])
  simp only at hp
  split at hp
  ·cases hp;exact absurd rfl iZ
  ·cases hp;exact absurd rfl iZ
  ·rename_i e hs hd
   split at hp
   ·rename_i he
    cases hp
    simp only[pop] at hv
    split at hv
    ·rename_i n c Rl
     cases hv
     rw[Rl] at hx
     show cF P (do pure (.value (←convert s d (a.eval x)))) L0 lo m H w _ H
     generalize a.eval x=rx at hx ⊢
     cases hx
     refine cF.value (rv := .string ByteArray.empty) ?_ (.str _) hR (Trans.refl lo m _ w)
     simp[convert,run_underlying hs,run_underlying hd,run_underlying he,Conv.bytesToString]
    ·rename_i b o n c Rl
     split at hv
     ·rename_i cs Kx
      cases hb:tI cs with
      | none=>rw[hb] at hv;cases hv
      |
       some bs =>
       rw[hb] at hv
       cases hv
       rw[Rl] at hx
       exact WM hs hd he Kx hb hR hx
     ·cases hv
    ·cases hv
   ·cases hp
  ·cases hp
 |
  field t x i =>
  simp only at hp
  split at hp
  ·split at hp
   ·rename_i f hf'
    cases ht:lY P f.type with
    | none=>rw[ht] at hp;cases hp
    | some q=>rw[ht] at hp;cases hp;exact absurd rfl iZ
   ·cases hp
  ·cases hp
 |
  build t parts =>
  simp only at hp
  split at hp
  ·split at hp
   ·split at hp
    ·cases hp;exact absurd rfl iZ
    ·cases hp
   ·cases hp
  ·cases hp
 | nilCheck x=>cases hp;exact absurd rfl iZ
 |
  fieldAddr t x i =>
  simp only at hp
  split at hp
  ·split at hp
   ·split at hp
    ·split at hp
     ·cases hp
     ·cases hp;exact absurd rfl iZ
    ·cases hp
   ·cases hp
  ·cases hp
 |
  indexAddr t x i =>
  simp only at hp
  cases ht:jZ P t with
  | none=>rw[ht] at hp;cases hp
  | some q=>rw[ht] at hp;cases hp;exact absurd rfl iZ
 |
  index t x i =>
  simp only at hp
  split at hp
  ·cases hp;exact absurd rfl iZ
  ·cases hp
 |
  slice t x Bf hi mx =>
  have hx:=hr x (by simp[Op.operands])
  simp only at hp
  split at hp
  ·split at hp
   ·cases hp;exact absurd rfl iZ
   ·cases hp
  ·rename_i e hu
   cases ht:lY P e with
   | none=>rw[ht] at hp;cases hp
   |
    some q =>
    obtain⟨agg,size,z,nb⟩:=q
    rw[ht] at hp
    cases hp
    obtain⟨i,d,zz,BP,_,_,rfl,rfl,rfl,rfl⟩:=iU ht
    simp only[pop] at hv
    cases hs:BT i.size (ev ρ x) (Bf.map (ev ρ)) (hi.map (ev ρ)) (mx.map (ev ρ)) H with
    | none=>rw[hs] at hv;cases hv
    |
     some q =>
     obtain⟨u,H1⟩:=q
     rw[hs] at hv
     cases hv
     exact YO hu BP hs hx (RO.map fun y hy=>hr y (by simp[Op.operands,hy])) (RO.map fun y hy=>hr y (by simp[Op.operands,hy])) (RO.map fun y hy=>hr y (by simp[Op.operands,hy])) hR hf
  ·cases hp
 |
  makeFunc fn first fR =>
  cases fn with
  |
   func f =>
   simp only at hp
   split at hp
   ·cases hp;exact absurd rfl iZ
   ·cases hp
  | _=>cases hp
 | makeInterface t x=>cases hp;exact absurd rfl iZ
 | panic x=>cases hp;exact absurd rfl iZ
 |
  load t p =>
  have hx:=hr p (by simp[Op.operands])
  simp only at hp
  cases ht:lY P t with
  | none=>rw[ht] at hp;cases hp
  |
   some q =>
   obtain⟨agg,size,z,nb⟩:=q
   rw[ht] at hp
   cases hp
   simp only[pop] at hv
   cases hl:nR agg size (ev ρ p) H with
   | none=>rw[hl] at hv;cases hv
   |
    some u =>
    rw[hl] at hv
    cases hv
    obtain⟨rv,h1,h2⟩:=L6 ht hl hR hx
    exact cF.value h2 h1 hR (Trans.refl lo m _ w)
 |
  store t p x =>
  have hpp:=hr p (by simp[Op.operands])
  have hx:=hr x (by simp[Op.operands])
  simp only at hp
  cases ht:P.info? t with
  | none=>rw[ht] at hp;cases hp
  |
   some i =>
   rw[ht] at hp
   cases hp
   simp only[pop] at hv
   split at hv
   ·rename_i b o hpo
    split at hv
    ·rename_i hs
     cases hw:H.write lo b o (aL (ev ρ x)) with
     | none=>rw[hw] at hv;cases hv
     |
      some H1 =>
      rw[hw] at hv
      cases hv
      rw[hpo] at hpp
      exact So ht hpp hx hs hw hR iD
    ·cases hv
   ·cases hv
 |
  alloc t =>
  simp only at hp
  split at hp
  ·rename_i agg size z nb ht
   split at hp
   ·rename_i hz
    cases hp
    simp only[Bool.and_eq_true] at hz
    cases hv
    exact Xj ht hz.1 hz.2 hR (hf _ (Nat.le_refl _) (by simp))
   ·cases hp
  ·cases hp
 |
  box t x =>
  have hx:=hr x (by simp[Op.operands])
  cases hp
  simp only[pop] at hv
  split at hv
  ·rename_i hs
   cases hv
   exact Wa hx hs hR (hf _ (Nat.le_refl _) (by simp))
  ·cases hv
 |
  makeSlice t l c =>
  have hl:=hr l (by simp[Op.operands])
  have hc:=hr c (by simp[Op.operands])
  simp only at hp
  split at hp
  ·rename_i agg size z nb ht
   split at hp
   ·rename_i hz
    cases hp
    simp only[Bool.and_eq_true,beq_iff_eq,decide_eq_true_eq] at hz
    obtain⟨⟨⟨z1,z2⟩,z3⟩,z4⟩:=hz
    simp only[pop] at hv
    split at hv
    ·rename_i l' c' CY hc'
     split at hv
     ·rename_i hb
      cases hv
      rw[CY] at hl
      rw[hc'] at hc
      show cF P (do pure (.value (←Instr.makeSlice t (a.eval l) (a.eval c)))) L0 lo m H w _ _
      generalize a.eval l=rl at hl ⊢
      generalize a.eval c=rc at hc ⊢
      cases hl
      cases hc
      exact Vf ht z1 z2 z3 z4 hb.1 hb.2.1 hb.2.2.1 hb.2.2.2 hR (hf _ (Nat.le_refl _) (by simp))
     ·cases hv
    ·cases hv
   ·cases hp
  ·cases hp
 |
  buildSlice t n parts =>
  simp only at hp
  split at hp
  ·rename_i agg size z nb ht
   split at hp
   ·rename_i hz
    cases hp
    simp only[Bool.and_eq_true,beq_iff_eq,decide_eq_true_eq] at hz
    obtain⟨⟨⟨⟨z1,z2⟩,z3⟩,z4⟩,z5⟩:=hz
    simp only[pop] at hv
    split at hv
    ·rename_i cs Kx
     split at hv
     ·rename_i B1
      cases hv
      have:=X5 (P:=P) (w:=w) (lo:=lo) (a:=a) ht z1 z2 z3 z4 z5 Kx B1 (fun p hpm=>hr p.2 (by simp only[Op.operands];simp;exact⟨p.1,by simpa using hpm⟩)) hR (hf _ (Nat.le_refl _) (by simp))
      rw[Array.toArray_toList] at this
      exact this
     ·cases hv
    ·cases hv
   ·cases hp
  ·cases hp
 |
  call c =>
  obtain⟨callee,args,ts⟩:=c
  cases callee with
  |
   builtin b =>
   have QS:∀x∈args,RV m (ev ρ x) (a.eval x):=fun x hx=>hr x (by simpa[Op.operands,Call.operands] using hx)
   simp only at hp
   unfold oH at hp
   split at hp
   ·split at hp<;>first | (cases hp;done) | (cases hp;exact absurd rfl iZ)
   ·split at hp<;>first | (cases hp;done) | (cases hp;exact absurd rfl iZ)
   ·cases hp;exact absurd rfl iZ
   ·cases hp;exact absurd rfl iZ
   ·rename_i x y t u CI xH WC _
    have ea:args = #[x,y]:=Array.toList_inj.1 (by simpa using xH)
    subst ea
    have hx:=QS x (by simp)
    have hy:=QS y (by simp)
    have aoH:∃tr,ts=(t::u::tr).toArray:=⟨CI,Array.toList_inj.1 (by simpa using WC)⟩
    obtain⟨tr,rfl⟩:=aoH
    show cF P (do pure (.value (←Builtin.append_ (t::u::tr).toArray type ((#[x,y]:Array Operand).map a.eval)))) L0 lo m H w v H'
    rw[IP]
    have aoW:∀r1 r2,Builtin.append_ (t::u::tr).toArray type #[r1,r2]=Builtin.append_ #[t,u] type #[r1,r2]:=fun r1 r2=>by simp[Builtin.append_]
    rw[aoW]
    split at hp
    ·rename_i agg size zero bytes ku ht hu
     split at hp
     ·rename_i hz
      cases hp
      simp only[Bool.and_eq_true,beq_iff_eq,decide_eq_true_eq] at hz
      obtain⟨⟨⟨z1,z2⟩,z3⟩,z4⟩:=hz
      simp only[pop] at hv
      split at hv
      ·rename_i n hn
       split at hv
       ·rename_i hb
        cases vD:dS lo zero.length bytes (ev ρ x) n.toNat (cM n.toNat zero) H with
        | none=>rw[vD] at hv;cases hv
        |
         some q =>
         obtain⟨u',H1⟩:=q
         rw[vD] at hv
         cases hv
         rw[hn] at hy
         generalize a.eval y=ry at hy ⊢
         cases hy
         exact UZ ht hu hb vD hx z4 z1 z2 z3 hR iD hf
       ·cases hv
      ·cases hv
     ·cases hp
    ·rename_i agg size zero bytes d _ ht hu
     split at hp
     ·rename_i hd
      split at hp
      ·rename_i Tr
       cases hp
       simp only[pop] at hv
       split at hv
       ·rename_i k hk
        split at hv
        ·rename_i new mZ
         cases vD:dS lo size bytes (ev ρ x) k new H with
         | none=>rw[vD] at hv;cases hv
         |
          some q =>
          obtain⟨u',H1⟩:=q
          rw[vD] at hv
          cases hv
          exact Yf ht hu hd hk mZ vD hx hy (by simpa using Tr) hR iD hf
        ·cases hv
       ·cases hv
      ·cases hp
     ·cases hp
    ·cases hp
   ·rename_i x y t CI xH WC _
    have ea:args = #[x,y]:=Array.toList_inj.1 (by simpa using xH)
    have et:ts=(t::CI).toArray:=Array.toList_inj.1 (by simpa using WC)
    subst ea;subst et
    have hx:=QS x (by simp)
    have hy:=QS y (by simp)
    show cF P (do pure (.value (←Builtin.copy_ (t::CI).toArray type ((#[x,y]:Array Operand).map a.eval)))) L0 lo m H w v H'
    rw[IP]
    split at hp
    ·rename_i agg size zero bytes ht
     cases hp
     simp only[pop] at hv
     split at hv
     ·rename_i n c k Rl hk
      cases hv
      rw[Rl] at hx
      generalize a.eval x=rx at hx ⊢
      cases hx
      obtain⟨e,HX,MS⟩:=jK ht
      obtain⟨i,de,zz,hi,_,Gt,_,_,_,_⟩:=iU MS
      refine cF.value (rv := .int .i64 0) (w':=w) ?_ (.int _ _) hR (Trans.refl lo m _ w)
      have hl:=GM hk hy
      have hf0:=OR (P:=P) (w:=w) i.size hk hy
      simp[Builtin.copy_,run_underlying HX,hl,run_sizeOf e i hi,goInt,hf0]
     ·rename_i b o d c k Rl hk
      split at hv
      ·rename_i new mZ
       cases hw:H.write lo b o new with
       | none=>rw[hw] at hv;cases hv
       |
        some H1 =>
        rw[hw] at hv
        cases hv
        rw[Rl] at hx
        exact UE ht hk mZ hw hx hy hR iD
      ·cases hv
     ·cases hv
    ·cases hp
   ·rename_i x t CI xH WC _
    have ea:args = #[x]:=Array.toList_inj.1 (by simpa using xH)
    have et:ts=(t::CI).toArray:=Array.toList_inj.1 (by simpa using WC)
    subst ea;subst et
    have hx:=QS x (by simp)
    show cF P (do pure (.value (←Builtin.clear_ (t::CI).toArray type ((#[x]:Array Operand).map a.eval)))) L0 lo m H w v H'
    rw[NZ]
    split at hp
    ·rename_i agg size zero bytes ht
     split at hp
     ·rename_i hz
      cases hp
      simp only[Bool.and_eq_true,beq_iff_eq,decide_eq_true_eq] at hz
      obtain⟨⟨⟨z1,z2⟩,z3⟩,z4⟩:=hz
      obtain⟨e,HX,MS⟩:=jK ht
      obtain⟨i,de,zz,hi,_,Gt,rfl,rfl,rfl,rfl⟩:=iU MS
      simp only[pop] at hv
      split at hv
      ·rename_i n c Rl
       cases hv
       rw[Rl] at hx
       generalize a.eval x=rx at hx ⊢
       cases hx
       exact HA HX .Ik hR
      ·rename_i b o n c Rl
       rw[Rl] at hx
       split at hv
       ·rename_i WZ
        cases hv
        subst WZ
        exact HA HX hx hR
       ·rename_i WZ
        cases hw:H.write lo b o (cM n (aL zz)) with
        | none=>rw[hw] at hv;cases hv
        |
         some H1 =>
         rw[hw] at hv
         cases hv
         exact R7 HX hi Gt WZ hw hx z2 z4 hR iD
      ·cases hv
     ·cases hp
    ·cases hp
   ·cases hp
  |
   value f =>
   cases f with
   | func g=>cases hp;cases hv
   |
    tmp t =>
    cases hp
    simp only[pop] at hv
    split at hv<;>cases hv
   | const c=>cases hp
   | global g=>cases hp
  | invoke r s=>cases hp
 | _=>cases hp
def JW (P:Program) (f:Nat):Prop:=∃fn,P.funcs[f]? = some fn∧(fn.name == "runtime.NumGoroutine")=false∧fn.body.isNone=false
theorem Fh {f:Nat} {args:Array Value} (h:JW P f):(callFunc f args).run P w = .ok (.enter f args) w:=by
 obtain⟨fn,h1,h2,h3⟩:=h
 unfold callFunc
 rw[Sem.run_bind,run_program,Result.andThen_ok,h1]
 simp[h2,h3]
theorem map_none {α β:Type} {o:Option α} {f:α→β} {x:β} (h:o.map f=some x) (hf:∀y,f y≠x):False:=by
 cases o with
 | none=>cases h
 | some y=>injection h with h;exact hf y h
theorem VC {op:Op} {g:Nat} {as:List Operand} (h:pV P op=some (.call g as)):∃args ts,op = .call ⟨.value (.func g),args,ts⟩∧as=args.toList:=by
 unfold pV at h
 split at h
 case isFalse=>cases h
 cases op with
 |
  call c =>
  obtain⟨callee,args,ts⟩:=c
  cases callee with
  |
   builtin b =>
   exfalso
   simp only[oH] at h
   repeat' (split at h)
   all_goals cases h
  |
   value f =>
   cases f with
   | func g'=>cases h;exact⟨args,ts,rfl,rfl⟩
   | _=>cases h
  | invoke r s=>cases h
 |
  _ =>
  exfalso
  dsimp only at h
  try unfold BB at h
  repeat' (split at h)
  all_goals first
   | contradiction
   | (cases h;done)
   | exact map_none h (by intro y h;cases h)
theorem Rq {op:Op} {fv:Operand} {as:List Operand} (h:pV P op=some (.callv fv as)):∃args ts,op = .call ⟨.value fv,args,ts⟩∧as=args.toList:=by
 unfold pV at h
 split at h
 case isFalse=>cases h
 cases op with
 |
  call c =>
  obtain⟨callee,args,ts⟩:=c
  cases callee with
  |
   builtin b =>
   exfalso
   simp only[oH] at h
   repeat' (split at h)
   all_goals cases h
  |
   value f =>
   cases f with
   | tmp g'=>cases h;exact⟨args,ts,rfl,rfl⟩
   | _=>cases h
  | invoke r s=>cases h
 |
  _ =>
  exfalso
  dsimp only at h
  try unfold BB at h
  repeat' (split at h)
  all_goals first
   | contradiction
   | (cases h;done)
   | exact map_none h (by intro y h;cases h)
theorem rV {po:nI} {ρ:Env} {lo f:Nat} {args:List Value} (hv:pop lo po ρ H=some (.call f args)):(∃g as,po = .call g as)∨(∃g as,po = .callv g as):=by
 by_cases iZ:tW po=true
 ·rw[xY iZ] at hv
  cases hpp:iS po ρ with
  | none=>rw[hpp] at hv;cases hv
  | some u=>rw[hpp] at hv;cases hv
 cases po<;>first | exact absurd rfl iZ | exact .inl ⟨_,_,rfl⟩ | exact .inr ⟨_,_,rfl⟩ | skip
 all_goals
  exfalso
  simp only[pop] at hv
  repeat' (split at hv)
  all_goals first
   | (cases hv;done)
   | (revert hv;generalize aE.write _ _ _ _ _=q;cases q<;>intro hv<;>cases hv)
   | (revert hv;generalize nR _ _ _ _=q;cases q<;>intro hv<;>cases hv)
   | (revert hv;generalize BT _ _ _ _ _ _=q;cases q<;>intro hv<;>cases hv)
   | (revert hv;generalize dS _ _ _ _ _ _ _=q;cases q<;>intro hv<;>cases hv)
   | (revert hv;generalize tI _=q;cases q<;>intro hv<;>cases hv)
theorem U1 {o:Oper} {po:nI} {ρ:Env} {a:Act} {lo f:Nat} {args:List Value} (hp:pV P o.op=some po) (hv:pop lo po ρ H=some (.call f args)) (hr:∀x∈o.op.operands,RV m (ev ρ x) (a.eval x)) :
  ∃gR,RL m args gR∧(JW P f→∀w,(execOp a.eval o).run P w = .ok (.enter f gR.toArray) w):=by
 have key:=rV hv
 obtain⟨dst,op,type,pos,after,guard⟩:=o
 simp only at hp hr ⊢
 rcases key with⟨g,as,rfl⟩ | ⟨g,as,rfl⟩
 ·obtain⟨BK,ts,rfl,rfl⟩:=VC hp
  cases hv
  refine⟨BK.toList.map a.eval,RL.map fun x hx=>hr x (by simp[Op.operands,Call.operands];right;simpa using hx),fun hc w => ?_⟩
  have e1:(BK.toList.map a.eval).toArray=BK.map a.eval:=Array.toList_inj.1 (by rw[Array.toList_map])
  rw[e1]
  have e2:execOp a.eval ⟨dst,.call ⟨.value (.func f),BK,ts⟩,type,pos,after,guard⟩=callFunc f ((#[]++BK.map a.eval) ++ #[]):=rfl
  rw[e2,Fh hc]
  simp
 ·obtain⟨BK,ts,rfl,rfl⟩:=Rq hp
  have hg:=hr g (by simp[Op.operands,Call.operands])
  simp only[pop] at hv
  split at hv
  ·rename_i f' first fR hfv
   cases hv
   rw[hfv] at hg
   generalize hrg:a.eval g=rg at hg
   cases hg with
   |
    func fn f1 g1 c1 d1 h1 h2 h3 h4 =>
    refine⟨g1.toList++BK.toList.map a.eval++d1.toList,((RL.arr h1 h2).append (RL.map fun x hx=>hr x (by simp[Op.operands,Call.operands];right;simpa using hx))).append (RL.arr h3 h4),fun hc w => ?_⟩
    have e1:(g1.toList++BK.toList.map a.eval++d1.toList).toArray=(g1++BK.map a.eval)++d1:=by
     apply Array.ext'
     simp
    rw[e1]
    have e2:(execOp a.eval ⟨dst,.call ⟨.value g,BK,ts⟩,type,pos,after,guard⟩)=(do let d ←Deferred.ofValue (a.eval g) (BK.map a.eval);invoke d.target d.args):=rfl
    rw[e2,hrg]
    show (callFunc f ((g1++BK.map a.eval)++d1)).run P w=_
    exact Fh hc
  ·cases hv
end
end Go.PM
namespace Go.PM
section
variable {H:aE}
theorem U8 {lo:Nat} {H':aE} (h:Ext H.length H H'):Ext lo H H' :=
 ⟨h.len,fun b _ hl=>h.low b hl hl,h.liv⟩
theorem HK {lo size bytes add:Nat} {x v:Value} {new:List Value} {H':aE} (h:dS lo size bytes x add new H=some (v,H')):Ext lo H H':=by
 unfold dS at h
 split at h
 case isFalse=>cases h
 split at h
 ·split at h
  ·split at h
   ·cases h;exact Ext.refl _ _
   ·split at h
    ·cases h;exact pE _ _ _
    ·cases h
  ·cases h
 ·split at h
  ·split at h
   ·split at h
    ·split at h
     ·cases h;exact Ext.refl _ _
     ·cases hw:aE.write H lo _ _ new with
      | none=>rw[hw] at h;cases h
      | some H1=>rw[hw] at h;cases h;exact Ds hw
    ·split at h
     ·split at h
      ·split at h
       ·rename_i DV
        cases h
        exact T7 DV
       ·cases h
      ·cases h;exact pE _ _ _
     ·cases h
   ·cases h
  ·cases h
 ·cases h
theorem Wm {lo size:Nat} {x v:Value} {l h' mx:Option Value} {H':aE} (h:BT size x l h' mx H=some (v,H')):Ext lo H H':=by
 unfold BT at h
 repeat' (split at h)
 all_goals first
  | (cases h;done)
  | (cases h;exact Ext.refl _ _)
  | (cases h;exact pE _ _ _)
theorem S9 {lo:Nat} {po:nI} {ρ:Env} {v:Value} {H':aE} (h:pop lo po ρ H=some (.val v H')):Ext lo H H':=by
 by_cases iZ:tW po=true
 ·rw[xY iZ] at h
  obtain⟨_,rfl⟩:=Ca h
  exact Ext.refl _ _
 cases po<;>first | exact absurd rfl iZ | skip
 case load agg size p =>
  simp only[pop] at h
  cases hl:nR agg size (ev ρ p) H with
  | none=>rw[hl] at h;cases h
  | some u=>rw[hl] at h;cases h;exact Ext.refl _ _
 case sub size x l hh mx =>
  simp only[pop] at h
  cases hs:BT size (ev ρ x) (l.map (ev ρ)) (hh.map (ev ρ)) (mx.map (ev ρ)) H with
  | none=>rw[hs] at h;cases h
  |
   some q =>
   obtain⟨u,H1⟩:=q
   rw[hs] at h;cases h;exact Wm hs
 case b2s x =>
  simp only[pop] at h
  split at h
  ·cases h;exact Ext.refl _ _
  ·split at h
   ·rename_i cs _
    cases hb:tI cs with
    | none=>rw[hb] at h;cases h
    | some bs=>rw[hb] at h;cases h;exact Ext.refl _ _
   ·cases h
  ·cases h
 case new z=>cases h;exact pE _ _ _
 case box x =>
  simp only[pop] at h
  split at h
  ·cases h;exact pE _ _ _
  ·cases h
 case make z b l c =>
  simp only[pop] at h
  split at h
  ·split at h
   ·cases h;exact pE _ _ _
   ·cases h
  ·cases h
 case lit z n parts =>
  simp only[pop] at h
  split at h
  ·split at h
   ·cases h;exact pE _ _ _
   ·cases h
  ·cases h
 case call f args=>cases h
 case callv f args =>
  simp only[pop] at h
  split at h<;>cases h
 case store size p x =>
  simp only[pop] at h
  split at h
  ·rename_i b o _
   split at h
   ·cases hw:H.write lo b o (aL (ev ρ x)) with
    | none=>rw[hw] at h;cases h
    | some H1=>rw[hw] at h;cases h;exact Ds hw
   ·cases h
  ·cases h
 case app size bytes x y =>
  simp only[pop] at h
  split at h
  ·rename_i n _
   split at h
   ·rename_i new _
    cases ha:dS lo size bytes (ev ρ x) n new H with
    | none=>rw[ha] at h;cases h
    |
     some q =>
     obtain⟨u,H1⟩:=q
     rw[ha] at h;cases h;exact HK ha
   ·cases h
  ·cases h
 case appz z bytes x n =>
  simp only[pop] at h
  split at h
  ·rename_i k _
   split at h
   ·cases ha:dS lo z.length bytes (ev ρ x) k.toNat (cM k.toNat z) H with
    | none=>rw[ha] at h;cases h
    |
     some q =>
     obtain⟨u,H1⟩:=q
     rw[ha] at h;cases h;exact HK ha
   ·cases h
  ·cases h
 case copy size x y =>
  simp only[pop] at h
  split at h
  ·cases h;exact Ext.refl _ _
  ·rename_i b o d _ s _ _
   split at h
   ·rename_i new _
    cases hw:H.write lo b o new with
    | none=>rw[hw] at h;cases h
    | some H1=>rw[hw] at h;cases h;exact Ds hw
   ·cases h
  ·cases h
 case clear z x =>
  simp only[pop] at h
  split at h
  ·cases h;exact Ext.refl _ _
  ·rename_i b o n _ _
   split at h
   ·cases h;exact Ext.refl _ _
   ·cases hw:H.write lo b o (cM n z) with
    | none=>rw[hw] at h;cases h
    | some H1=>rw[hw] at h;cases h;exact Ds hw
  ·cases h
def rJ (call:fV):Prop:=∀f args lo H v H',call f args lo H=some (v,H')→Ext lo H H'
theorem JX {call:fV} (hc:rJ call) {lo:Nat} {i:PI} {ρ:Env} {v:Value} {H':aE} (h:yV call lo i ρ H=some (v,H')):Ext lo H H':=by
 unfold yV at h
 split at h
 ·cases h
 ·cases h;exact Ext.refl _ _
 ·split at h
  ·split at h
   ·rename_i hp
    cases h
    exact S9 hp
   ·rename_i f args _
    have:=hc _ _ _ _ _ _ h
    split at this
    ·exact U8 this
    ·exact this
   ·cases h
  ·cases h
theorem yE {call:fV} {lo:Nat} {i:PI} {ρ aM:Env} {H':aE} (h:yO call lo i ρ H=some (aM,H')):∃v,yV call lo i ρ H=some (v,H')∧aM=put ρ i.dst v:=by
 unfold yO at h
 split at h
 ·rename_i v H1 hv
  cases h
  exact⟨v,hv,rfl⟩
 ·cases h
theorem GL {call:fV} (hc:rJ call) {lo:Nat} {i:PI} {ρ aM:Env} {H':aE} (h:yO call lo i ρ H=some (aM,H')):Ext lo H H':=by
 obtain⟨v,h1,_⟩:=yE h
 exact JX hc h1
theorem Kb {call:fV} (hc:rJ call) {lo:Nat}:∀(is:List PI) {ρ aM:Env} {H H':aE},gZ call lo is ρ H=some (aM,H')→Ext lo H H'
 | [],ρ,aM,H,H',h=>by cases h;exact Ext.refl _ _
 |
  i::is,ρ,aM,H,H',h=>by
  rw[gZ] at h
  split at h
  ·rename_i h1
   exact(GL hc h1).trans (Kb hc is h)
  ·cases h
theorem Gp {lo:Nat} {body:Env→aE→Option (Ex×Env×aE)} (hb:∀ρ H x aM H',body ρ H=some (x,aM,H')→Ext lo H H'):∀(n:Nat) {ρ aM:Env} {H H':aE} {x:Ex},xV body n ρ H=some (x,aM,H')→Ext lo H H'
 | 0,_,_,_,_,_,h=>by cases h
 |
  n+1,ρ,aM,H,H',x,h=>by
  rw[xV] at h
  split at h
  ·rename_i h1
   exact(hb _ _ _ _ _ h1).trans (Gp hb n h)
  ·exact hb _ _ _ _ _ h
theorem jP {call:fV} (hc:rJ call) {lo n:Nat}:∀(c:aF) {ρ aM:Env} {H H':aE} {x:Ex},dD call lo n c ρ H=some (x,aM,H')→Ext lo H H'
 | .skip,_,_,_,_,_,h=>by cases h;exact Ext.refl _ _
 |
  .eT ops,ρ,aM,H,H',x,h=>by
  rw[dD] at h
  cases hp:gZ call lo ops ρ H with
  | none=>rw[hp] at h;cases h
  |
   some q =>
   obtain⟨wQ,H1⟩:=q
   rw[hp] at h;cases h
   exact Kb hc ops hp
 |
  .seq a b,ρ,aM,H,H',x,h=>by
  rw[dD] at h
  split at h
  ·rename_i h1
   exact(jP hc a h1).trans (jP hc b h)
  ·exact jP hc a h
 |
  .cond c a b,ρ,aM,H,H',x,h=>by
  rw[dD] at h
  split at h
  ·split at h
   ·exact jP hc a h
   ·exact jP hc b h
  ·cases h
 |
  .block id a,ρ,aM,H,H',x,h=>by
  rw[dD] at h
  split at h
  ·rename_i h1
   split at h<;>(cases h;exact jP hc a h1)
  ·exact jP hc a h
 |
  .loop a,ρ,aM,H,H',x,h=>by
  rw[dD] at h
  exact Gp (fun ρ H x aM H' h=>jP hc a h) n h
 | .exit id,_,_,_,_,_,h=>by cases h;exact Ext.refl _ _
 | .ret,_,_,_,_,_,h=>by cases h;exact Ext.refl _ _
theorem Da (E:AO) (T:Wp):∀n,rJ (lZ E T n)
 | 0=>fun _ _ _ _ _ _ h=>by cases h
 |
  n+1=>fun f args lo H v H' h=>by
  rw[lZ] at h
  split at h
  ·rename_i p _
   cases hp:p args H with
   | none=>rw[hp] at h;cases h
   | some u=>rw[hp] at h;cases h;exact Ext.refl _ _
  ·split at h
   ·cases h
   ·rename_i pf _
    split at h
    ·split at h
     ·rename_i wQ H1 h1
      cases hr:qQ pf.res wQ H1 with
      | none=>rw[hr] at h;cases h
      | some u=>rw[hr] at h;cases h;exact jP (Da E T n) _ h1
     ·rename_i wQ H1 h1
      cases hr:qQ pf.res wQ H1 with
      | none=>rw[hr] at h;cases h
      | some u=>rw[hr] at h;cases h;exact jP (Da E T n) _ h1
     ·cases h
    ·cases h
end
end Go.PM
namespace Go.PM
theorem Dl {α β:Type} {f:α→Option β}:∀ {l:List α} {ys:List β},l.mapM f=some ys→ys.length=l.length∧∀i (h:i<l.length),f l[i]=ys[i]?
 |
  [],ys,h=>by
  simp at h
  subst h
  exact⟨rfl,fun i h=>absurd h (by simp)⟩
 |
  x::l,ys,h=>by
  simp only[List.mapM_cons,Option.pure_def,Option.bind_eq_bind] at h
  cases h1:f x with
  | none=>rw[h1] at h;cases h
  |
   some y =>
   rw[h1] at h
   cases h2:l.mapM f with
   | none=>rw[h2] at h;cases h
   |
    some zs =>
    rw[h2] at h
    cases h
    obtain⟨k1,k2⟩:=Dl h2
    refine⟨by simp[k1],fun i hi => ?_⟩
    cases i with
    | zero=>simpa using h1
    | succ i=>simpa using k2 i (by simpa using hi)
theorem P4 {α β:Type} {f:α→Option β} {l:List α} {ys:List β} (h:l.mapM f=some ys) {i:Nat} {x:α} (hx:l[i]? = some x):∃y,ys[i]? = some y∧f x=some y:=by
 obtain⟨h1,h2⟩:=Dl h
 obtain⟨aX,rfl⟩:=List.getElem?_eq_some_iff.1 hx
 have J8:i<ys.length:=by omega
 refine⟨ys[i],List.getElem?_eq_getElem J8,?_⟩
 rw[h2 i aX,List.getElem?_eq_getElem J8]
def DI (E:AO) (ops:List Oper) (M:List Nat) (i j:Nat) (pi pj:nI) (l:List (Operand×Operand)):Prop :=
 match fS E pi,fS E pj with
 | .look,.write | .write,.look=>ahead M i j=true∨∃a b,D9 pi=some a∧D9 pj=some b∧Dg ops i j a=true∧(a,b)∈l
 | .write,.write | .quiet,.write | .write,.quiet=>ahead M i j=true
 | _,_=>True
theorem DI.mono {E:AO} {ops:List Oper} {M:List Nat} {i j:Nat} {pi pj:nI} {l l':List (Operand×Operand)} (h:DI E ops M i j pi pj l) (hl:∀x∈l,x∈l'):DI E ops M i j pi pj l':=by
 unfold DI at h ⊢
 split at h
 all_goals first
  | exact h
  | exact h.imp id fun⟨a,b,h1,h2,h3,h4⟩=>⟨a,b,h1,h2,h3,hl _ h4⟩
theorem I4 {E:AO} {ops:List Oper} {ps:List nI} {M:List Nat} {j:Nat} {pj:nI} {l:List (Operand×Operand)} (h:conflicts E ops ps M j pj=some l) :
  ∀i,i<j→∀pi,ps[i]? = some pi→DI E ops M i j pi pj l:=by
 have key:∀(is:List Nat) (l:List (Operand×Operand)),(is.foldr (fun i acc=>match acc,ps[i]? with
  |
   some l,some pi =>
   match fS E pi,fS E pj with
   |
    .look,.write | .write,.look =>
    if ahead M i j then some l
    else match D9 pi,D9 pj with
     | some a,some b=>if Dg ops i j a then some ((a,b)::l) else none
     | _,_=>none
   | .write,.write | .quiet,.write | .write,.quiet=>if ahead M i j then some l else none
   | _,_=>some l
  | _,_=>none) (some []))=some l→∀i∈is,∀pi,ps[i]? = some pi→DI E ops M i j pi pj l:=by
  intro is
  induction is with
  | nil=>intro l _ i hi;cases hi
  |
   cons i0 is ih =>
   intro l h i hi pi Vz
   rw[List.foldr_cons] at h
   revert h
   generalize arS:is.foldr _ (some [])=acc
   intro h
   cases acc with
   | none=>cases h
   |
    some l0 =>
    have ih':=ih l0 arS
    cases Xk:ps[i0]? with
    | none=>rw[Xk] at h;cases h
    |
     some p0 =>
     rw[Xk] at h
     simp only at h
     have step:(∀x∈l0,x∈l)∧DI E ops M i0 j p0 pj l:=by
      unfold DI
      split at h
      ·rename_i c1 c2
       try rw[c1,c2]
       split at h
       ·rename_i ha;cases h;exact⟨fun x hx=>hx,.inl ha⟩
       ·split at h
        ·rename_i a b ta tb
         split at h
         ·rename_i hu;cases h;exact⟨fun x hx=>List.mem_cons_of_mem _ hx,.inr ⟨a,b,ta,tb,hu,List.mem_cons_self⟩⟩
         ·cases h
        ·cases h
      ·rename_i c1 c2
       try rw[c1,c2]
       split at h
       ·rename_i ha;cases h;exact⟨fun x hx=>hx,.inl ha⟩
       ·split at h
        ·rename_i a b ta tb
         split at h
         ·rename_i hu;cases h;exact⟨fun x hx=>List.mem_cons_of_mem _ hx,.inr ⟨a,b,ta,tb,hu,List.mem_cons_self⟩⟩
         ·cases h
        ·cases h
      ·rename_i c1 c2
       try rw[c1,c2]
       split at h
       ·rename_i ha;cases h;exact⟨fun x hx=>hx,ha⟩
       ·cases h
      ·rename_i c1 c2
       try rw[c1,c2]
       split at h
       ·rename_i ha;cases h;exact⟨fun x hx=>hx,ha⟩
       ·cases h
      ·rename_i c1 c2
       try rw[c1,c2]
       split at h
       ·rename_i ha;cases h;exact⟨fun x hx=>hx,ha⟩
       ·cases h
      ·cases h
       refine⟨fun x hx=>hx,?_⟩
       first | trivial | (split<;>first | trivial | (simp_all;done)) | (simp_all;done)
     rcases List.mem_cons.1 hi with rfl | hi
     ·rw[Xk] at Vz
      cases Vz
      exact step.2
     ·exact(ih' i hi pi Vz).mono step.1
 exact fun i hi pi Vz=>key _ l h i (List.mem_range.2 hi) pi Vz
structure XT (P:Program) (E:AO) (n:Nat) (ops:List Oper) (i:Nat) (o:Oper) (p:nI) (pi:PI):Prop where
 U7:pV P o.op=some p
 dst:pi.dst=o.dst
 op:pi.op=p
 guard:guardOf ops i o=some pi.g
 bound:∀d,o.dst=some d→d<n
structure Nl (E:AO) (ops:List Oper) (ps:List nI) (M:List Nat) (i:Nat) (o:Oper) (p:nI) (pi:PI):Prop where
 back:∀e∈o.after.toList,Region.binds .any e=true→e.on<i
 guard:∀j w,o.guard=some (j,w)→(M.getD i 0).testBit j=true
 Mb:∀t∈o.dst.toList++vZ ops o,∀k ok,ops[k]? = some ok→ok.dst=some t→k=i∨ahead M i k=true
 mask:M.getD i 0=wJ o M
 quiet:pi.quiet=(match fS E p with | .quiet=>true | _=>false)
 akG:∀k,k<i→∀pk,ps[k]? = some pk→DI E ops M k i pk p pi.cf
theorem O8 {P:Program} {E:AO} {n:Nat} {ops:List Oper} {ps:List nI} {M:List Nat} {draw:Bool} {i:Nat} {pi:PI} (h:Sp E ops ps M n draw i=some pi) {o:Oper} {p:nI} (ho:ops[i]? = some o) (hp:ps[i]? = some p)
  (Tb:pV P o.op=some p):XT P E n ops i o p pi∧(draw=true→Nl E ops ps M i o p pi)∧(draw=false→pi.quiet=false∧pi.cf=[]):=by
 unfold Sp at h
 rw[ho,hp] at h
 simp only at h
 split at h
 case isFalse=>cases h
 rename_i hb
 have hbound:∀d,o.dst=some d→d<n:=by
  intro d hd
  rw[hd] at hb
  simpa[abW] using hb
 split at h
 ·cases h
 ·rename_i g hg
  cases draw with
  |
   false =>
   simp only[Bool.false_eq_true,if_false] at h
   cases h
   exact⟨⟨Tb,rfl,rfl,hg,hbound⟩,(fun h=>by cases h),fun _=>⟨rfl,rfl⟩⟩
  |
   true =>
   simp only[if_true] at h
   split at h
   case isFalse=>cases h
   rename_i hc
   simp only[Bool.and_eq_true,beq_iff_eq] at hc
   obtain⟨⟨⟨c1,c2⟩,c3⟩,c4⟩:=hc
   cases N0:conflicts E ops ps M i p with
   | none=>rw[N0] at h;cases h
   |
    some cf =>
    rw[N0] at h
    cases h
    refine⟨⟨Tb,rfl,rfl,hg,hbound⟩,fun _=>⟨fun e he Zc => ?_,fun j w hj => ?_,fun t ht k ok hk hkd => ?_,c4,rfl,I4 N0⟩,(fun h=>by cases h)⟩
    ·have:=List.all_eq_true.1 c1 e he
     simpa[Zc] using this
    ·rw[hj] at c2
     exact c2
    ·have h1:=List.all_eq_true.1 c3 t ht
     have hk':k<ops.length:=(List.getElem?_eq_some_iff.1 hk).1
     have h2:=List.all_eq_true.1 h1 k (List.mem_range.2 hk')
     rw[hk] at h2
     simp only[Bool.or_eq_true,bne_iff_ne,ne_eq,beq_iff_eq] at h2
     rcases h2 with(h2 | h2) | h2
     ·exact absurd hkd h2
     ·exact .inl h2
     ·exact .inr h2
structure abG (P:Program) (E:AO) (n:Nat) (ops:List Oper) (draw:Bool) (tB:List PI) (ps:List nI) (M:List Nat):Prop where
 DP:ps.length=ops.length
 aoL:tB.length=ops.length
 each:∀i o,ops[i]? = some o→∃p pi,ps[i]? = some p∧tB[i]? = some pi∧XT P E n ops i o p pi∧(draw=true→Nl E ops ps M i o p pi)∧(draw=false→pi.quiet=false∧pi.cf=[])
theorem Is {P:Program} {E:AO} {n:Nat} {ops:Array Oper} {draw:Bool} {tB:List PI} (h:yI P E n ops draw=some tB):∃ps M,abG P E n ops.toList draw tB ps M:=by
 unfold yI at h
 split at h
 ·rename_i ps hps
  simp only at h
  generalize (if draw=true then NK ops.toList [] else [])=M at h
  obtain⟨h1,h2⟩:=Dl hps
  obtain⟨h3,h4⟩:=Dl h
  refine⟨ps,M,h1,by simpa using h3,fun i o ho => ?_⟩
  have aX:=(List.getElem?_eq_some_iff.1 ho).1
  obtain⟨p,hp,Tb⟩:=P4 hps ho
  have hr:(List.range ops.size)[i]? = some i:=by rw[List.getElem?_range];simpa using aX
  obtain⟨pi,Vz,hpp⟩:=P4 h hr
  exact⟨p,pi,hp,Vz,O8 hpp ho hp Tb⟩
 ·cases h
theorem KP {o:Oper} {M:List Nat} {i:Nat} (h:(wJ o M).testBit i=true):∃e∈o.after.toList,Region.binds .any e=true∧(e.on=i∨(M.getD e.on 0).testBit i=true):=by
 unfold wJ at h
 revert h
 generalize o.after.toList=es
 induction es with
 | nil=>intro h;simp at h
 |
  cons e es ih =>
  intro h
  rw[List.foldr_cons] at h
  split at h
  ·rename_i hb
   rw[Nat.testBit_or,Nat.testBit_or,Bool.or_eq_true,Bool.or_eq_true] at h
   rcases h with(h | h) | h
   ·obtain⟨e',h1,h2⟩:=ih h
    exact⟨e',List.mem_cons_of_mem _ h1,h2⟩
   ·refine⟨e,List.mem_cons_self,hb,.inl ?_⟩
    rw[Nat.testBit_two_pow] at h
    simpa using h
   ·exact⟨e,List.mem_cons_self,hb,.inr h⟩
  ·obtain⟨e',h1,h2⟩:=ih h
   exact⟨e',List.mem_cons_of_mem _ h1,h2⟩
theorem RY {ops:List Oper} {M:List Nat} {S:Nat→Prop} (hb:∀i o,ops[i]? = some o→∀e∈o.after.toList,Region.binds .any e=true→e.on<i) (hm:∀i o,ops[i]? = some o→M.getD i 0=wJ o M)
  (hS:∀i o,ops[i]? = some o→S i→∀e∈o.after.toList,Region.binds .any e=true→S e.on):∀j o,ops[j]? = some o→(∀e∈o.after.toList,Region.binds .any e=true→S e.on)→∀i,(M.getD j 0).testBit i=true→S i:=by
 intro j
 induction j using Nat.strongRecOn with
 |
  _ j ih =>
  intro o ho hj i hi
  rw[hm j o ho] at hi
  obtain⟨e,he,Zc,h1⟩:=KP hi
  rcases h1 with rfl | h1
  ·exact hj e he Zc
  ·have aX:=hb j o ho e he Zc
   have hjl:=(List.getElem?_eq_some_iff.1 ho).1
   have hel:e.on<ops.length:=by omega
   exact ih e.on aX ops[e.on] (List.getElem?_eq_getElem hel) (hS e.on _ (List.getElem?_eq_getElem hel) (hj e he Zc)) i h1
end Go.PM
namespace Go.PM
def wM (P:Program) (L0:Nat) (call:fV):Prop :=
 ∀f args lo H v H',call f args lo H=some (v,H')→∀m w gR,Rel m L0 H w→L0≤lo→L0≤H.length→RL m args gR→(∀b,H.length≤b→b<H'.length→m b=none) →
  JW P f∧Calls P f gR.toArray w fun e w'=>∃m' rv,e = .returned rv∧RV m' v rv∧Rel m' L0 H' w'∧Trans lo m H w m' H' w'
section
variable {P:Program} {m:dA} {L0:Nat} {H:aE} {w:World}
theorem tO {call:fV} {lo:Nat} {i:PI} {ρ:Env} {v:Value} {H':aE} (h:yV call lo i ρ H=some (v,H')) :
  (zM i.g ρ=some false∧v=undef∧H'=H) ∨
  (zM i.g ρ=some true∧i.cf.all (AX ρ)=true∧(pop lo i.op ρ H=some (.val v H') ∨
   ∃f args,pop lo i.op ρ H=some (.call f args)∧call f args (if i.quiet then H.length else lo) H=some (v,H'))):=by
 unfold yV at h
 split at h
 ·cases h
 ·rename_i hw;cases h;exact .inl ⟨hw,rfl,rfl⟩
 ·rename_i hw
  split at h
  ·rename_i N0
   refine .inr ⟨hw,N0,?_⟩
   split at h
   ·rename_i hp;cases h;exact .inl hp
   ·rename_i f args hp;exact .inr ⟨f,args,hp,h⟩
   ·cases h
  ·cases h
theorem Ul {t:Array Value} {d:Nat} {b:Bool} (h:t.getD d undef = .bool b):t[d]? = some (.bool b):=by
 rcases Nat.lt_or_ge d t.size with hd | hd
 ·simp[hd] at h ⊢
  exact h
 ·simp[Array.getElem?_eq_none hd,undef] at h
theorem Et {ops:Array Oper} {i:Nat} {o:Oper} {g:Option (Nat×Bool)} {ρ:Env} {a:Act} {t:Bool} (hg:guardOf ops.toList i o=some g) (hw:zM g ρ=some t)
  (hr:∀d∈vZ ops.toList o,RV m (ρ d) (a.tmps.getD d undef)):Region.wanted o (yielded ops a.tmps)=t:=by
 unfold guardOf at hg
 unfold Region.wanted
 cases UW:o.guard with
 |
  none =>
  rw[UW] at hg
  cases hg
  cases hw
  rfl
 |
  some jw =>
  obtain⟨j,want⟩:=jw
  rw[UW] at hg
  simp only at hg
  split at hg
  ·split at hg
   ·rename_i d hd
    cases hg
    have Kt:d∈vZ ops.toList o:=by
     unfold vZ
     rw[UW]
     simp only[List.mem_append]
     right
     rw[hd]
     simp
    have D5:=hr d Kt
    simp only[zM] at hw
    split at hw
    ·rename_i b hb
     cases hw
     rw[hb] at D5
     generalize hx:a.tmps.getD d undef=x at D5
     cases D5
     have hy:yielded ops a.tmps j=some b:=by
      unfold yielded
      have We:(ops[j]?).bind (·.dst)=some d:=by simpa using hd
      rw[We,Option.bind_some,Ul hx]
     simp only[hy]
     cases b<;>cases want<;>rfl
    ·rename_i vs hb
     cases hw
     rw[hb] at D5
     generalize hx:a.tmps.getD d undef=x at D5
     obtain⟨ws,rfl⟩:∃ws,x = .tuple ws:=by cases D5;exact⟨_,rfl⟩
     have We:(ops[j]?).bind (·.dst)=some d:=by simpa using hd
     have hy:yielded ops a.tmps j=none:=by
      unfold yielded
      rw[We,Option.bind_some]
      rcases Nat.lt_or_ge d a.tmps.size with aX | aX
      ·have:a.tmps[d]? = some (.tuple ws):=by rw[←hx];simp[aX]
       rw[this]
      ·rw[Array.getElem?_eq_none aX]
     simp only[hy]
     rfl
    ·cases hw
   ·cases hg
  ·cases hg
theorem Yp {E:AO} {p:nI} {lo Bf:Nat} {ρ:Env} (h:fS E p = .quiet):pop lo p ρ H=pop Bf p ρ H:=by
 cases p<;>first | rfl | (simp[fS] at h;done)
theorem D7 {ops:List Oper} {o:Oper} {t:Nat} (h:Operand.tmp t∈o.op.operands):t∈vZ ops o:=by
 unfold vZ tmpsOf
 rw[List.mem_append]
 left
 rw[List.mem_filterMap]
 exact⟨.tmp t,by simpa using h,rfl⟩
theorem I8 {op:Op} {p:nI} (h:pV P op=some p):∀x∈op.operands,No x=true:=by
 intro x hx
 unfold pV at h
 split at h
 ·rename_i kW
  obtain⟨i,hi,rfl⟩:=Array.getElem_of_mem hx
  exact Array.all_eq_true.1 kW i hi
 ·cases h
theorem NG {E:AO} {n lo k:Nat} {ops:Array Oper} {o:Oper} {p:nI} {pi:PI} {call:fV} {ρ:Env} {v:Value} {H':aE} {a:Act} {K:Act→World→Prop} {Q:Exit→Act→World→Prop} (ho:ops[k]? = some o) (Dk:XT P E n ops.toList k o p pi)
  (hq:pi.quiet=true→fS E p = .quiet) (hv:yV call lo pi ρ H=some (v,H')) (hr:∀t∈vZ ops.toList o,RV m (ρ t) (a.tmps.getD t undef)) (hR:Rel m L0 H w) (iD:L0≤lo) (hlen:L0≤H.length)
  (hf:∀b,H.length≤b→b<H'.length→m b=none) (nU:wM P L0 call)
  (hK:∀m' rv w',RV m' v rv→Rel m' L0 H' w'→Trans (if pi.quiet then H.length else lo) m H w m' H' w'→K (a.put o.dst rv) w'):wpOp P ops Q k K a w:=by
 have hro:∀x∈o.op.operands,RV m (ev ρ x) (a.eval x):=fun x hx=>Sg (I8 Dk.U7 x hx) fun t ht=>hr t (D7 (ht▸hx))
 unfold wpOp
 rw[ho]
 simp only
 rcases tO hv with⟨hw,rfl,rfl⟩ | ⟨hw,_,hp | ⟨f,args,hp,hc⟩⟩
 ·rw[Et Dk.guard hw hr]
  simp only[Bool.false_eq_true,if_false]
  exact hK m undef w (RV.undef m) hR (Trans.refl _ m _ w)
 ·rw[Et Dk.guard hw hr]
  simp only[if_true]
  left
  rw[Dk.op] at hp
  have hs:cF P (execOp a.eval o) L0 (if pi.quiet then H.length else lo) m H w v H':=by
   split
   ·rename_i hqq
    rw[Yp (Bf:=H.length) (hq hqq)] at hp
    exact TP Dk.U7 hp hro hR hlen hf
   ·exact TP Dk.U7 hp hro hR iD hf
  obtain⟨rv,w',m',pG,h1,h2,h3⟩:=hs
  unfold Oper.wp
  rcases pG with pG | ⟨pG,rfl⟩
  ·rw[pG]
   exact hK m' rv w' h1 h2 h3
  ·rw[pG]
   exact hK m' undef w' h1 h2 h3
 ·rw[Et Dk.guard hw hr]
  simp only[if_true]
  left
  rw[Dk.op] at hp
  have aiI:L0≤(if pi.quiet then H.length else lo):=by split<;>assumption
  obtain⟨gR,QS,ahH⟩:=U1 Dk.U7 hp hro
  have pG:=ahH (nU f args _ H v H' hc m w gR hR aiI hlen QS hf).1
  unfold Oper.wp
  rw[pG w]
  show Calls P f gR.toArray w _
  refine(nU f args _ H v H' hc m w gR hR aiI hlen QS hf).2.mono ?_
  rintro e w' ⟨m',rv,rfl,h1,h2,h3⟩
  exact hK m' rv w' h1 h2 h3
end
end Go.PM
namespace Go.PM
theorem F4 {call:fV} {lo:Nat}:∀ {tB:List PI} {ρ aM:Env} {H H':aE},gZ call lo tB ρ H=some (aM,H') →
  ∃st:Nat→Env×aE,st 0=(ρ,H)∧st tB.length=(aM,H')∧∀i pi,tB[i]? = some pi→yO call lo pi (st i).1 (st i).2=some (st (i+1))
 |
  [],ρ,aM,H,H',h=>by
  cases h
  exact⟨fun _=>(ρ,H),rfl,rfl,fun i pi hi=>by simp at hi⟩
 |
  x::tB,ρ,aM,H,H',h=>by
  rw[gZ] at h
  split at h
  ·rename_i wQ H1 h1
   obtain⟨st,h2,h3,h4⟩:=F4 h
   refine⟨fun i=>match i with | 0=>(ρ,H) | i+1=>st i,rfl,h3,fun i pi hi => ?_⟩
   cases i with
   |
    zero =>
    simp at hi
    subst hi
    show yO call lo x ρ H=some (st 0)
    rw[h1,h2]
   | succ i=>exact h4 i pi (by simpa using hi)
  ·cases h
theorem iX {H1 H2:aE} {b:Nat} (h:H2[b]? = H1[b]?):Live H2 b↔Live H1 b:=by
 unfold Live
 rw[h]
theorem Rel.restrict {m:dA} {L0:Nat} {H1 H2:aE} {w:World} (h:Rel m L0 H2 w) (hs:∀b,b<H1.length→H2[b]? = H1[b]?):Rel m L0 H1 w:=by
 refine⟨h.valid,fun b l cs e p hm hb=>h.row b l cs e p hm ?_,fun b1 b2 l1 l2 hb h1 h2 Dd GJ=>h.inj b1 b2 l1 l2 hb h1 h2 ((iX (hs b1 Dd.lt)).2 Dd) ((iX (hs b2 GJ.lt)).2 GJ),fun x hx=>⟨(h.Co x hx).1,fun b l hb hm hl=>(h.Co x hx).2 b l hb hm ((iX (hs b hl.lt)).2 hl)⟩⟩
 rw[hs b (List.getElem?_eq_some_iff.1 hb).1]
 exact hb
theorem Rel.grow {m:dA} {L0:Nat} {H1 H2:aE} {w:World} (h:Rel m L0 H1 w) (hs:∀b,b<H1.length→H2[b]? = H1[b]?) (hd:∀b,H1.length≤b→b<H2.length→m b=none):Rel m L0 H2 w:=by
 have lt:∀b l,m b=some l→b<H2.length→b<H1.length:=fun b l hm hb=>by
  rcases Nat.lt_or_ge b H1.length with h | h
  ·exact h
  ·rw[hd b h hb] at hm;cases hm
 refine⟨h.valid,fun b l cs e p hm hb=>h.row b l cs e p hm ?_,fun b1 b2 l1 l2 hb h1 h2 Dd GJ=>h.inj b1 b2 l1 l2 hb h1 h2 ((iX (hs b1 (lt b1 l1 h1 Dd.lt))).1 Dd) ((iX (hs b2 (lt b2 l2 h2 GJ.lt))).1 GJ),fun x hx=>⟨(h.Co x hx).1,fun b l hb hm hl=>(h.Co x hx).2 b l hb hm ((iX (hs b (lt b l hm hl.lt))).1 hl)⟩⟩
 rw[←hs b (lt b l hm (List.getElem?_eq_some_iff.1 hb).1)]
 exact hb
structure Text (P:Program) (E:AO) (n:Nat) (ops:Array Oper) (tB:List PI) (ps:List nI) (M:List Nat) (call:fV) (lo:Nat) (st:Nat→Env×aE):Prop where
 ok:abG P E n ops.toList true tB ps M
 ext:rJ call
 step:∀i pi,tB[i]? = some pi→yO call lo pi (st i).1 (st i).2=some (st (i+1))
section
variable {P:Program} {E:AO} {n:Nat} {ops:Array Oper} {tB:List PI} {ps:List nI} {M:List Nat} {call:fV} {lo:Nat} {st:Nat→Env×aE}
theorem Text.at (T:Text P E n ops tB ps M call lo st) {i:Nat} (hi:i<ops.size):∃o p pi,ops[i]? = some o∧ps[i]? = some p∧tB[i]? = some pi∧XT P E n ops.toList i o p pi∧Nl E ops.toList ps M i o p pi ∧
  ∃v,yV call lo pi (st i).1 (st i).2=some (v,(st (i+1)).2)∧(st (i+1)).1=put (st i).1 o.dst v:=by
 have ho:ops.toList[i]? = some ops[i]:=by simp[hi]
 obtain⟨p,pi,h1,h2,h3,h4,_⟩:=T.ok.each i _ ho
 obtain⟨v,h5,h6⟩:=yE (T.step i pi h2)
 exact⟨ops[i],p,pi,by simp[hi],h1,h2,h3,h4 rfl,v,h5,by rw[h6,h3.dst]⟩
theorem Text.ajS (T:Text P E n ops tB ps M call lo st) {i:Nat} (hi:i<ops.size):(st i).2.length≤(st (i+1)).2.length:=by
 obtain⟨o,p,pi,_,_,_,_,_,v,hv,_⟩:=T.at hi
 exact(JX T.ext hv).len
theorem Text.len (T:Text P E n ops tB ps M call lo st) {i:Nat}:∀ {j:Nat},i≤j→j≤ops.size→(st i).2.length≤(st j).2.length:=by
 intro j Pk
 induction j with
 | zero =>
    intro _;have:i=0:=by omega
    subst this;exact Nat.le_refl _
 |
  succ j ih =>
  intro hj
  rcases Nat.lt_or_ge i (j+1) with h | h
  ·exact Nat.le_trans (ih (by omega) (by omega)) (T.ajS (by omega))
  ·have:i=j+1:=by omega
   subst this;exact Nat.le_refl _
theorem Text.akY (T:Text P E n ops tB ps M call lo st) {i:Nat} {p:nI} (hi:i<ops.size) (hp:ps[i]? = some p) (hw:fS E p ≠ .write):∀b,b<(st i).2.length→(st (i+1)).2[b]? = (st i).2[b]? := by
 intro b hb
 obtain⟨o,p',pi,_,Af,_,Dk,VU,v,hv,_⟩:=T.at hi
 rw[hp] at Af
 cases Af
 rcases tO hv with⟨_,_,h⟩ | ⟨_,_,h | ⟨f,args,h1,h2⟩⟩
 ·rw[h]
 ·rw[Dk.op] at h
  by_cases hq:fS E p = .quiet
  ·rw[Yp (Bf:=(st i).2.length) hq] at h
   exact(S9 h).low b hb hb
  ·
   have:(st (i+1)).2=(st i).2:=by
    cases p<;>first
     | (exact absurd rfl hw)
     | (exact absurd rfl hq)
     | (rw[xY rfl] at h;exact(Ca h).2)
     | skip
    case load agg size q =>
     simp only[pop] at h
     cases hl:nR agg size (ev (st i).1 q) (st i).2 with
     | none=>rw[hl] at h;cases h
     | some u=>rw[hl] at h;injection h with h;injection h with _ h;exact h.symm
    case b2s x =>
     simp only[pop] at h
     split at h
     ·injection h with h;injection h with _ h;exact h.symm
     ·split at h
      ·rename_i cs _
       cases hb:tI cs with
       | none=>rw[hb] at h;cases h
       | some bs=>rw[hb] at h;injection h with h;injection h with _ h;exact h.symm
      ·cases h
     ·cases h
    case sub size x l hh mx =>
     simp only[pop] at h
     cases mx with
     | some mx=>exact absurd rfl hq
     |
      none =>
      cases hs:BT size (ev (st i).1 x) (l.map (ev (st i).1)) (hh.map (ev (st i).1)) ((none:Option Operand).map (ev (st i).1)) (st i).2 with
      | none=>rw[hs] at h;cases h
      |
       some q =>
       obtain⟨u,H1⟩:=q
       rw[hs] at h
       injection h with h;injection h with _ h
       subst h
       unfold BT at hs
       simp only[Option.map_none,Option.isSome_none,Bool.false_eq_true,false_and,if_false] at hs
       repeat' (split at hs)
       all_goals first
        | (cases hs;done)
        | (injection hs with hs;injection hs with _ hs;exact hs.symm)
    case call f args=>cases h
   rw[this]
 ·rw[Dk.op] at h1
  have hq:pi.quiet=true:=by
   rw[VU.quiet]
   rcases rV h1 with⟨g,as,rfl⟩ | ⟨g,as,rfl⟩
   ·simp only[fS] at hw ⊢
    split at hw
    ·exact absurd rfl hw
    ·rename_i h;rw[if_neg h]
   ·exact absurd rfl hw
  rw[hq] at h2
  exact(T.ext _ _ _ _ _ _ h2).low b hb hb
end
end Go.PM
namespace Go.PM
theorem Dh {H H':aE} {lo b o:Nat} {new:List Value} (h:H.write lo b o new=some H') {b':Nat} (hb:b'≠b):H'[b']? = H[b']? := by
 obtain⟨cs,e,p,h1,h2,h3,h4,rfl⟩:=Bc h
 exact List.getElem?_set_ne (Ne.symm hb)
theorem Hu {H H':aE} {lo size bytes add:Nat} {x v:Value} {new:List Value} (h:dS lo size bytes x add new H=some (v,H')) {b':Nat} (hb:jD x≠some b') (aX:b'<H.length):H'[b']? = H[b']? := by
 unfold dS at h
 split at h
 case isFalse=>cases h
 split at h
 ·split at h
  ·split at h
   ·cases h;rfl
   ·split at h
    ·cases h;exact List.getElem?_append_left aX
    ·cases h
  ·cases h
 ·rename_i b o n c
  have fQ:b'≠b:=fun e=>hb (by rw[e];rfl)
  split at h
  ·split at h
   ·split at h
    ·split at h
     ·cases h;rfl
     ·cases hw:aE.write H lo b (o+n*size) new with
      | none=>rw[hw] at h;cases h
      | some H1=>rw[hw] at h;cases h;exact Dh hw fQ
    ·split at h
     ·split at h
      ·split at h
       ·cases h
        rw[List.getElem?_append_left (by simpa using aX)]
        exact List.getElem?_set_ne (Ne.symm fQ)
       ·cases h
      ·cases h;exact List.getElem?_append_left aX
     ·cases h
   ·cases h
  ·cases h
 ·cases h
theorem Z6 {E:AO} {lo:Nat} {p:nI} {ρ:Env} {H H':aE} {v:Value} {x:Operand} (h:pop lo p ρ H=some (.val v H')) (hw:fS E p = .write) (ht:D9 p=some x) {b':Nat} (hb:jD (ev ρ x)≠some b') (aX:b'<H.length):H'[b']? = H[b']? := by
 cases p<;>first | (cases ht;done) | (cases hw;done) | skip
 case sub size y l hh mx=>cases mx<;>cases hw
 case store size q y =>
  cases ht
  simp only[pop] at h
  split at h
  ·rename_i b o he
   rw[he] at hb
   have fQ:b'≠b:=fun e=>hb (by rw[e];rfl)
   split at h
   ·cases hw:H.write lo b o (aL (ev ρ y)) with
    | none=>rw[hw] at h;cases h
    | some H1=>rw[hw] at h;cases h;exact Dh hw fQ
   ·cases h
  ·cases h
 case app size bytes y z =>
  cases ht
  simp only[pop] at h
  split at h
  ·rename_i n _
   split at h
   ·rename_i new _
    cases ha:dS lo size bytes (ev ρ x) n new H with
    | none=>rw[ha] at h;cases h
    |
     some q =>
     obtain⟨u,H1⟩:=q
     rw[ha] at h;cases h;exact Hu ha hb aX
   ·cases h
  ·cases h
 case appz z bytes y n =>
  cases ht
  simp only[pop] at h
  split at h
  ·rename_i k _
   split at h
   ·cases ha:dS lo z.length bytes (ev ρ x) k.toNat (cM k.toNat z) H with
    | none=>rw[ha] at h;cases h
    |
     some q =>
     obtain⟨u,H1⟩:=q
     rw[ha] at h;cases h;exact Hu ha hb aX
   ·cases h
  ·cases h
 case copy size y z =>
  cases ht
  simp only[pop] at h
  split at h
  ·cases h;rfl
  ·rename_i b o d _ s he _
   rw[he] at hb
   have fQ:b'≠b:=fun e=>hb (by rw[e];rfl)
   split at h
   ·rename_i new _
    cases hw:H.write lo b o new with
    | none=>rw[hw] at h;cases h
    | some H1=>rw[hw] at h;cases h;exact Dh hw fQ
   ·cases h
  ·cases h
 case clear z y =>
  cases ht
  simp only[pop] at h
  split at h
  ·cases h;rfl
  ·rename_i b o n _ he
   rw[he] at hb
   have fQ:b'≠b:=fun e=>hb (by rw[e];rfl)
   split at h
   ·cases h;rfl
   ·cases hw:H.write lo b o (cM n z) with
    | none=>rw[hw] at h;cases h
    | some H1=>rw[hw] at h;cases h;exact Dh hw fQ
  ·cases h
theorem NS {H:aE} {b o n:Nat} {cs:List Value} (h:H.read b o n=some cs):b<H.length:=by
 unfold aE.read at h
 split at h
 ·rename_i hb;exact(List.getElem?_eq_some_iff.1 hb).1
 ·cases h
theorem Ev {H H2:aE} {b o n:Nat} (h:H2[b]? = H[b]?):H2.read b o n=H.read b o n:=by
 unfold aE.read
 rw[h]
theorem QZ {agg:Bool} {size:Nat} {x v:Value} {H H2:aE} (h:nR agg size x H=some v) (hb:∀b,jD x=some b→b<H.length→H2[b]? = H[b]?):nR agg size x H2=some v:=by
 unfold nR at h ⊢
 split at h
 ·rename_i b o
  have aX:b<H.length:=by
   split at h
   ·cases hr:H.read b o size with
    | none=>rw[hr] at h;cases h
    | some cs=>exact NS hr
   ·cases hr:H.read b o 1 with
    | none=>rw[hr] at h;cases h
    | some cs=>exact NS hr
  have e:=hb b rfl aX
  simp only[Ev e]
  exact h
 ·cases h
theorem PQ {E:AO} {lo:Nat} {p:nI} {ρ:Env} {H H' H2:aE} {v:Value} (h:pop lo p ρ H=some (.val v H')) (hc:fS E p = .look) (hb:∀x,D9 p=some x→∀b,jD (ev ρ x)=some b→b<H.length→H2[b]? = H[b]?) :
  H'=H∧pop lo p ρ H2=some (.val v H2):=by
 cases p<;>first | (cases hc;done) | skip
 case call f args=>simp only[fS] at hc;split at hc<;>cases hc
 case load agg size q =>
  simp only[pop] at h ⊢
  cases hl:nR agg size (ev ρ q) H with
  | none=>rw[hl] at h;cases h
  |
   some u =>
   rw[hl] at h
   cases h
   refine⟨rfl,?_⟩
   rw[QZ hl (hb q rfl)]
   rfl
 case b2s x =>
  simp only[pop] at h ⊢
  split at h
  ·cases h;exact⟨rfl,rfl⟩
  ·rename_i b o n _ he
   split at h
   ·rename_i cs hr
    cases hbs:tI cs with
    | none=>rw[hbs] at h;cases h
    |
     some bs =>
     rw[hbs] at h
     cases h
     refine⟨rfl,?_⟩
     have e:=hb x rfl b (by rw[he];rfl) (NS hr)
     rw[Ev e,hr]
     simp only[hbs]
     rfl
   ·cases h
  ·cases h
 case sub size x l hh mx =>
  cases mx with
  | some mx=>cases hc
  |
   none =>
   simp only[pop] at h ⊢
   cases hs:BT size (ev ρ x) (l.map (ev ρ)) (hh.map (ev ρ)) ((none:Option Operand).map (ev ρ)) H with
   | none=>rw[hs] at h;cases h
   |
    some q =>
    obtain⟨u,H1⟩:=q
    rw[hs] at h
    cases h
    have wK:=hb x rfl
    generalize ev ρ x=xv at hs wK
    have key:H1=H∧BT size xv (l.map (ev ρ)) (hh.map (ev ρ)) ((none:Option Operand).map (ev ρ)) H2=some (u,H2):=by
     unfold BT at hs ⊢
     simp only[Option.map_none,Option.isSome_none,Bool.false_eq_true,false_and,if_false] at hs ⊢
     split at hs
     ·repeat' (split at hs)
      all_goals first | (cases hs;done) | skip
      cases hs
      simp_all
     ·rename_i b o n c
      split at hs
      ·rename_i cs e p nA
       have e1:=wK b rfl (List.getElem?_eq_some_iff.1 nA).1
       rw[e1,nA]
       simp only
       repeat' (split at hs)
       all_goals first | (cases hs;done) | skip
       cases hs
       simp_all
      ·cases hs
     ·cases hs
    rw[key.2]
    exact⟨key.1,rfl⟩
section
variable {P:Program} {E:AO} {n:Nat} {ops:Array Oper} {tB:List PI} {ps:List nI} {M:List Nat} {call:fV} {lo:Nat} {st:Nat→Env×aE}
theorem Text.Wg (T:Text P E n ops tB ps M call lo st) {i:Nat}:∀ {j:Nat},i≤j→j≤ops.size→Ext lo (st i).2 (st j).2:=by
 intro j Pk
 induction j with
 | zero =>
    intro _;have:i=0:=by omega
    subst this;exact Ext.refl _ _
 |
  succ j ih =>
  intro hj
  rcases Nat.lt_or_ge i (j+1) with h | h
  ·obtain⟨o,p,pi,_,_,_,_,_,v,hv,_⟩:=T.at (i:=j) (by omega)
   exact(ih (by omega) (by omega)).trans (JX T.ext hv)
  ·have:i=j+1:=by omega
   subst this;exact Ext.refl _ _
theorem Text.W3 (T:Text P E n ops tB ps M call lo st) {i:Nat}:∀ {j:Nat},i≤j→j≤ops.size→∀b,b<(st i).2.length →
  (∀k,i≤k→k<j→∀p pi,ps[k]? = some p→tB[k]? = some pi→fS E p = .write→zM pi.g (st k).1=some true→∃x,D9 p=some x∧jD (ev (st k).1 x)≠some b) →
  (st j).2[b]? = (st i).2[b]? := by
 intro j Pk
 induction j with
 | zero =>
      intro _ b _ _;have:i=0:=by omega
      subst this;rfl
 |
  succ j ih =>
  intro hj b hb hk
  rcases Nat.lt_or_ge i (j+1) with h | h
  ·have aX:b<(st j).2.length:=Nat.lt_of_lt_of_le hb (T.len (by omega) (by omega))
   have h1:(st (j+1)).2[b]? = (st j).2[b]? := by
    obtain⟨o,p,pi,_,hp,Vz,Dk,_,v,hv,_⟩:=T.at (i:=j) (by omega)
    by_cases hw:fS E p = .write
    ·rcases tO hv with⟨_,_,h⟩ | ⟨hwt,_,h | ⟨f,args,h1,h2⟩⟩
     ·rw[h]
     ·rw[Dk.op] at h
      obtain⟨x,hx,fQ⟩:=hk j (by omega) (by omega) p pi hp Vz hw hwt
      exact Z6 h hw hx fQ aX
     ·rw[Dk.op] at h1
      obtain⟨x,hx,fQ⟩:=hk j (by omega) (by omega) p pi hp Vz hw hwt
      rcases rV h1 with⟨g,as,rfl⟩ | ⟨g,as,rfl⟩<;>cases hx
    ·exact T.akY (by omega) hp hw b aX
   rw[h1]
   exact ih (by omega) (by omega) b hb fun k hk1 hk2=>hk k hk1 (by omega)
  ·have:i=j+1:=by omega
   subst this;rfl
theorem Text.same (T:Text P E n ops tB ps M call lo st) {i j:Nat} (Pk:i≤j) (hj:j≤ops.size) (hk:∀k,i≤k→k<j→∀p,ps[k]? = some p→fS E p ≠ .write):∀b,b<(st i).2.length→(st j).2[b]? = (st i).2[b]? :=
 fun b hb=>T.W3 Pk hj b hb fun k h1 h2 p _ hp _ hw _=>absurd hw (hk k h1 h2 p hp)
theorem Text.NR (T:Text P E n ops tB ps M call lo st) {i t:Nat}:∀ {j:Nat},i≤j→j≤ops.size→(∀k o,i≤k→k<j→ops[k]? = some o→o.dst≠some t)→(st j).1 t=(st i).1 t:=by
 intro j Pk
 induction j with
 | zero =>
      intro _ _;have:i=0:=by omega
      subst this;rfl
 |
  succ j ih =>
  intro hj hk
  rcases Nat.lt_or_ge i (j+1) with h | h
  ·obtain⟨o,p,pi,ho,hp,Vz,Dk,_,v,hv,he⟩:=T.at (i:=j) (by omega)
   rw[he]
   have fQ:=hk j o (by omega) (by omega) ho
   have h1:put (st j).1 o.dst v t=(st j).1 t:=by
    cases hd:o.dst with
    | none=>rfl
    |
     some d =>
     rw[hd] at fQ
     show (if t=d then v else _)=_
     rw[if_neg (fun e=>fQ (by rw[e]))]
   rw[h1]
   exact ih (by omega) (by omega) fun k o hk1 hk2=>hk k o hk1 (by omega)
  ·have:i=j+1:=by omega
   subst this;rfl
end
end Go.PM
namespace Go.PM
theorem yR {M:List Nat} {i j:Nat} (h:i<j):ahead M i j=(M.getD j 0).testBit i:=by
 unfold ahead
 have e1:Nat.max i j=j:=Nat.max_eq_right (by omega)
 have e2:Nat.min i j=i:=Nat.min_eq_left (by omega)
 rw[e1,e2]
theorem X2 {M:List Nat} {i j:Nat} (h:j<i):ahead M i j=(M.getD i 0).testBit j:=by
 unfold ahead
 have e1:Nat.max i j=i:=Nat.max_eq_left (by omega)
 have e2:Nat.min i j=j:=Nat.min_eq_right (by omega)
 rw[e1,e2]
theorem P8 {a:Act} {d t:Nat} {v:Value} (hd:d<a.tmps.size):(a.put (some d) v).tmps.getD t undef=if t=d then v else a.tmps.getD t undef:=by
 show (a.tmps.setIfInBounds d v).getD t undef=_
 rcases Nat.lt_or_ge t a.tmps.size with h | h
 ·by_cases e:t=d
  ·subst e;simp[h]
  ·simp[h,e,Ne.symm e]
 ·have:t≠d:=by omega
  simp[h,this]
theorem E3 (a:Act) (d:Option Nat) (v:Value):(a.put d v).tmps.size=a.tmps.size:=by
 cases d<;>simp[Act.put]
theorem FD (a:Act) (d:Option Nat) (v:Value):(a.put d v).defers=a.defers:=by
 cases d<;>rfl
section
variable {P:Program} {E:AO} {n:Nat} {ops:Array Oper} {tB:List PI} {ps:List nI} {M:List Nat} {call:fV} {lo L0:Nat} {st:Nat→Env×aE}
structure sM (E:AO) (n:Nat) (ops:Array Oper) (ps:List nI) (lo L0:Nat) (st:Nat→Env×aE) (m0:dA) (w0:World) (ds:List Deferred) (S:Nat→Prop) (m:dA) (c:Nat) (a:Act) (w:World):Prop where
 FU:a.tmps.size=n
 defs:a.defers=ds
 back:∀i o,ops.toList[i]? = some o→S i→∀e∈o.after.toList,Region.binds .any e=true→S e.on
 tm:∀t j,j≤ops.size→(∀i o,ops.toList[i]? = some o→o.dst=some t→(S i↔i<j))→RV m ((st j).1 t) (a.tmps.getD t undef)
 KN:c≤ops.size
 before:∀i p,i<c→ps[i]? = some p→fS E p = .write→S i
 atc:c<ops.size→¬S c∧∃p,ps[c]? = some p∧fS E p = .write
 rel:Rel m L0 (st c).2 w
 tr:Trans lo m0 (st 0).2 w0 m (st c).2 w
 VP:∀b l,m b=some l→m0 b≠none∨∃i,S i∧i<ops.size∧(st i).2.length≤b∧b<(st (i+1)).2.length
theorem Text.anc (T:Text P E n ops tB ps M call lo st) {S:Nat→Prop} (hS:∀i o,ops.toList[i]? = some o→S i→∀e∈o.after.toList,Region.binds .any e=true→S e.on) {k:Nat} {o:Oper} (ho:ops.toList[k]? = some o)
  (hk:∀e∈o.after.toList,Region.binds .any e=true→S e.on) {i:Nat} (hi:(M.getD k 0).testBit i=true):S i :=
 RY (fun i o hio=>by
   obtain⟨p,pi,_,_,_,hd,_⟩:=T.ok.each i o hio
   exact(hd rfl).back) (fun i o hio=>by
   obtain⟨p,pi,_,_,_,hd,_⟩:=T.ok.each i o hio
   exact(hd rfl).mask) hS k o ho hk i hi
theorem Text.SQ (T:Text P E n ops tB ps M call lo st) {i:Nat} {p:nI} (hi:i<ops.size) (hp:ps[i]? = some p) (h:fS E p = .pure∨fS E p = .look):(st (i+1)).2=(st i).2:=by
 obtain⟨o,p',pi,_,Af,_,Dk,VU,v,hv,_⟩:=T.at hi
 rw[hp] at Af
 cases Af
 rcases tO hv with⟨_,_,h'⟩ | ⟨_,_,h' | ⟨f,args,h1,h2⟩⟩
 ·exact h'
 ·rw[Dk.op] at h'
  rcases h with h | h
  ·have:tW p=true:=by
    cases p<;>first | rfl | (cases h;done) | skip
    case sub s x l hh mx=>cases mx<;>cases h
    case call f as=>simp only[fS] at h;split at h<;>cases h
   rw[xY this] at h'
   exact(Ca h').2
  ·exact(PQ h' h (fun _ _ _ _ _=>rfl)).1
 ·exfalso
  rw[Dk.op] at h1
  rcases rV h1 with⟨g,as,rfl⟩ | ⟨g,as,rfl⟩
  ·simp only[fS] at h
   split at h<;>rcases h with h | h<;>cases h
  ·rcases h with h | h<;>cases h
theorem Vg {op:Op} {p:nI} {x:Operand} (h:pV P op=some p) (ht:D9 p=some x):x∈op.operands:=by
 unfold pV at h
 split at h
 case isFalse=>cases h
 cases op with
 |
  load t q =>
  dsimp only at h
  cases hi:lY P t with
  | none=>rw[hi] at h;cases h
  | some u=>rw[hi] at h;cases h;cases ht;simp[Op.operands]
 |
  store t q v =>
  dsimp only at h
  cases hi:P.info? t with
  | none=>rw[hi] at h;cases h
  | some u=>rw[hi] at h;cases h;cases ht;simp[Op.operands]
 |
  slice t y l hh mx =>
  dsimp only at h
  split at h
  ·split at h
   ·cases h;cases ht
   ·cases h
  ·rename_i e _
   cases hi:lY P e with
   | none=>rw[hi] at h;cases h
   | some u=>rw[hi] at h;cases h;cases ht;simp[Op.operands]
  ·cases h
 |
  convert s d y =>
  dsimp only at h
  repeat' (split at h)
  all_goals first
   | (cases h;done)
   | (cases h;cases ht;done)
   | (cases h;cases ht;simp[Op.operands])
 |
  call c =>
  obtain⟨callee,args,ts⟩:=c
  cases callee with
  |
   builtin b =>
   simp only[oH] at h
   repeat' (split at h)
   all_goals first
    | (cases h;done)
    | (cases h;cases ht;done)
    | skip
   all_goals
    cases h
    cases ht
    have hm:x∈args.toList:=by simp_all
    simpa[Op.operands,Call.operands] using hm
  |
   value f =>
   cases f with
   | tmp g'=>cases h;cases ht
   | func g'=>cases h;cases ht
   | _=>cases h
  | invoke r s=>cases h
 |
  _ =>
  exfalso
  dsimp only at h
  try unfold BB at h
  repeat' (split at h)
  all_goals first
   | contradiction
   | (cases h;done)
   | (cases h;cases ht;done)
   | exact map_none h (by intro y h;cases h;cases ht)
end
end Go.PM
namespace Go.PM
theorem EC (p:Nat→Prop):∀(d c N:Nat),N-c=d→c≤N→∃c',c≤c'∧c'≤N∧(∀i,c≤i→i<c'→¬p i)∧(c'<N→p c')
 | 0,c,N,hd,hc=>⟨c,Nat.le_refl _,hc,fun i h1 h2=>by omega,fun h=>by omega⟩
 |
  d+1,c,N,hd,hc=>by
  by_cases hp:p c
  ·exact⟨c,Nat.le_refl _,hc,fun i h1 h2=>by omega,fun _=>hp⟩
  ·obtain⟨c',h1,h2,h3,h4⟩:=EC p d (c+1) N (by omega) (by omega)
   refine⟨c',by omega,h2,fun i hi1 IK => ?_,h4⟩
   rcases Nat.lt_or_ge c i with h | h
   ·exact h3 i h IK
   ·have:i=c:=by omega
    subst this;exact hp
theorem W9 {m:dA} {v r:Value} {b:Nat} (h:RV m v r) (hb:jD v=some b):∃l,m b=some l:=by
 cases h<;>first | (cases hb;done) | (cases hb;exact⟨_,by assumption⟩)
section
variable {P:Program} {E:AO} {n:Nat} {ops:Array Oper} {tB:List PI} {ps:List nI} {M:List Nat} {call:fV} {lo L0:Nat} {st:Nat→Env×aE}
 {m0:dA} {w0:World} {ds:List Deferred} {S:Nat→Prop} {m:dA} {c:Nat} {a:Act} {w:World} {k:Nat} {o:Oper} {p:nI} {pi:PI}
structure At (P:Program) (E:AO) (n:Nat) (ops:Array Oper) (tB:List PI) (ps:List nI) (M:List Nat) (S:Nat→Prop) (k:Nat) (o:Oper) (p:nI) (pi:PI):Prop where
 lt:k<ops.size
 eo:ops[k]? = some o
 ep:ps[k]? = some p
 epi:tB[k]? = some pi
 ok:XT P E n ops.toList k o p pi
 dr:Nl E ops.toList ps M k o p pi
 arZ:¬S k
 anc:∀i,(M.getD k 0).testBit i=true→S i
 desc:∀i,i<ops.size→S i→(M.getD i 0).testBit k=true→False
theorem At.ah (A:At P E n ops tB ps M S k o p pi) {i:Nat} (hi:i<ops.size) (h:i=k∨ahead M k i=true):S i↔i<k:=by
 rcases Nat.lt_trichotomy i k with h1 | h1 | h1
 ·refine⟨fun _=>h1,fun _ => ?_⟩
  rcases h with h | h
  ·omega
  ·rw[X2 h1] at h;exact A.anc i h
 ·subst h1
  exact⟨fun h=>absurd h A.arZ,fun h=>by omega⟩
 ·refine⟨fun hs => ?_,fun h=>by omega⟩
  rcases h with h | h
  ·omega
  ·rw[yR h1] at h;exact absurd h (fun h=>A.desc i hi hs h)
theorem EA {i:Nat} {oi:Oper} (h:ops.toList[i]? = some oi):i<ops.size:=by
 have:=(List.getElem?_eq_some_iff.1 h).1
 simpa using this
theorem At.reads (A:At P E n ops tB ps M S k o p pi) (I:sM E n ops ps lo L0 st m0 w0 ds S m c a w):∀t∈vZ ops.toList o,RV m ((st k).1 t) (a.tmps.getD t undef):=by
 intro t ht
 refine I.tm t k (Nat.le_of_lt A.lt) fun i oi hi hd => ?_
 exact A.ah (EA hi) (A.dr.Mb t (List.mem_append_right _ ht) i oi hi hd)
theorem At.operand (A:At P E n ops tB ps M S k o p pi) (I:sM E n ops ps lo L0 st m0 w0 ds S m c a w) {x:Operand} (hx:x∈o.op.operands):RV m (ev (st k).1 x) (a.eval x) :=
 Sg (I8 A.ok.U7 x hx) fun t ht=>A.reads I t (D7 (ht▸hx))
theorem At.pair (T:Text P E n ops tB ps M call lo st) {i j:Nat} {p q:nI} (Pk:i<j) (hj:j<ops.size) (hp:ps[i]? = some p) (hq:ps[j]? = some q):∃qi,tB[j]? = some qi∧DI E ops.toList M i j p q qi.cf:=by
 obtain⟨o,q',qi,_,Lc,Wv,_,hd,_⟩:=T.at hj
 rw[hq] at Lc
 cases Lc
 exact⟨qi,Wv,hd.akG i Pk p hp⟩
theorem sM.late (T:Text P E n ops tB ps M call lo st) (I:sM E n ops ps lo L0 st m0 w0 ds S m c a w) {i:Nat} {q:nI} (hi:c<i) (hn:i<ops.size) (hS:S i) (hq:ps[i]? = some q):fS E q = .pure∨fS E q = .look:=by
 obtain⟨hcS,pc,ZX,N1⟩:=I.atc (by omega)
 obtain⟨qi,_,jM⟩:=At.pair T hi hn ZX hq
 unfold DI at jM
 rw[N1] at jM
 obtain⟨oi,_,_,hoi,_⟩:=T.at hn
 have Ol:ops.toList[i]? = some oi:=by simpa using hoi
 have fin:ahead M c i=true→False:=fun h=>by
  rw[yR hi] at h
  exact hcS (T.anc I.back Ol (I.back i oi Ol hS) h)
 cases kU:fS E q with
 | pure=>exact .inl rfl
 | look=>exact .inr rfl
 | quiet=>rw[kU] at jM;exact absurd jM fin
 | write=>rw[kU] at jM;exact absurd jM fin
theorem sM.Mb (T:Text P E n ops tB ps M call lo st) (I:sM E n ops ps lo L0 st m0 w0 ds S m c a w) (A:At P E n ops tB ps M S k o p pi) {m':dA} {v rv:Value} (hm:∀b l,m b=some l→m' b=some l) (hv:RV m' v rv)
  (he:(st (k+1)).1=put (st k).1 o.dst v):∀t j,j≤ops.size→(∀i o,ops.toList[i]? = some o→o.dst=some t→((i=k∨S i)↔i<j))→RV m' ((st j).1 t) ((a.put o.dst rv).tmps.getD t undef):=by
 intro t j hj hw
 have Dk:ops.toList[k]? = some o:=by simpa using A.eo
 cases hd:o.dst with
 |
  none =>
  show RV m' _ (a.tmps.getD t undef)
  refine(I.tm t j hj fun i oi hi Zd => ?_).mono hm
  have fQ:i≠k:=fun e=>by subst e;rw[Dk] at hi;cases hi;rw[hd] at Zd;cases Zd
  rw[←hw i oi hi Zd]
  simp[fQ]
 |
  some d =>
  rw[P8 (by rw[I.FU];exact A.ok.bound d hd)]
  by_cases htd:t=d
  ·subst htd
   rw[if_pos rfl]
   have hkj:k<j:=(hw k o Dk hd).1 (.inl rfl)
   have e1:(st j).1 t=(st (k+1)).1 t:=by
    refine T.NR hkj hj fun i oi hi1 IK hoi Zd => ?_
    have Ol:ops.toList[i]? = some oi:=by simpa using hoi
    have hS:=(hw i oi Ol Zd).2 IK
    have hik:i≠k:=by omega
    have:=(A.ah (EA Ol) (A.dr.Mb t (List.mem_append_left _ (by rw[hd];simp)) i oi Ol Zd)).1 (hS.resolve_left hik)
    omega
   rw[e1,he,hd]
   show RV m' (if t=t then v else _) rv
   rw[if_pos rfl]
   exact hv
  ·rw[if_neg htd]
   refine(I.tm t j hj fun i oi hi Zd => ?_).mono hm
   have fQ:i≠k:=fun e=>by subst e;rw[Dk] at hi;cases hi;rw[hd] at Zd;cases Zd;exact htd rfl
   rw[←hw i oi hi Zd]
   simp[fQ]
theorem sM.YP (I:sM E n ops ps lo L0 st m0 w0 ds S m c a w) (A:At P E n ops tB ps M S k o p pi) (hr:∀e∈o.after.toList,Region.binds .any e=true→S e.on) :
  ∀i oi,ops.toList[i]? = some oi→(i=k∨S i)→∀e∈oi.after.toList,Region.binds .any e=true→(e.on=k∨S e.on):=by
 intro i oi hi hS e he hb
 rcases hS with rfl | hS
 ·have:ops.toList[i]? = some o:=by simpa using A.eo
  rw[this] at hi
  cases hi
  exact .inr (hr e he hb)
 ·exact .inr (I.back i oi hi hS e he hb)
theorem EX (T:Text P E n ops tB ps M call lo st) {i j:Nat} {x:Operand} (Pk:i≤j) (hj:j≤ops.size) (h:Dg ops.toList i j x=true):ev (st j).1 x=ev (st i).1 x:=by
 cases x with
 |
  tmp t =>
  refine T.NR Pk hj fun q oq h1 h2 hoq hd => ?_
  have kW:=List.all_eq_true.1 h oq (by
   have aoX:ops.toList[q]? = some oq:=by simpa using hoq
   rw[List.mem_iff_getElem?]
   refine⟨q-i,?_⟩
   rw[List.getElem?_drop,List.getElem?_take,show i+(q-i)=q by omega,if_pos h2,aoX])
  simp[hd] at kW
 | const v=>rfl
 | global g=>rfl
 | func f=>rfl
theorem sM.look (T:Text P E n ops tB ps M call lo st) (I:sM E n ops ps lo L0 st m0 w0 ds S m c a w) (A:At P E n ops tB ps M S k o p pi) (Be:∀b,(st 0).2.length≤b→b<(st ops.size).2.length→m0 b=none)
  (kU:fS E p = .pure∨fS E p = .look) {v:Value} (hv:yV call lo pi (st k).1 (st k).2=some (v,(st (k+1)).2)):yV call lo pi (st k).1 (st c).2=some (v,(st c).2):=by
 rcases tO hv with⟨hw,rfl,_⟩ | ⟨hw,N0,hp | ⟨f,args,hp,_⟩⟩
 ·unfold yV
  rw[hw]
 ·unfold yV
  rw[hw]
  simp only[N0,if_true]
  have key:pop lo pi.op (st k).1 (st c).2=some (.val v (st c).2):=by
   rw[A.ok.op] at hp ⊢
   rcases kU with kU | kU
   ·have hlp:tW p=true:=by
     cases p<;>first | rfl | (cases kU;done) | skip
     case sub s x l hh mx=>cases mx<;>cases kU
     case call f as=>simp only[fS] at kU;split at kU<;>cases kU
    rw[xY hlp] at hp ⊢
    rw[(Ca hp).1]
    rfl
   ·refine(PQ hp kU fun x hx b hb aX => ?_).2
    rcases Nat.lt_or_ge c k with hck | hck
    ·obtain⟨hcS,pc,ZX,N1⟩:=I.atc (Nat.lt_trans hck A.lt)
     have J8:b<(st c).2.length:=by
      rcases Nat.lt_or_ge b (st c).2.length with h | h
      ·exact h
      ·exfalso
       obtain⟨l,hl⟩:=W9 (A.operand I (Vg A.ok.U7 hx)) hb
       have h0:=T.len (i:=0) (j:=c) (Nat.zero_le _) I.KN
       have h1:=T.len (i:=k) (j:=ops.size) (Nat.le_of_lt A.lt) (Nat.le_refl _)
       rcases I.VP b l hl with h2 | ⟨i,hiS,cB,hi1,IK⟩
       ·exact h2 (Be b (by omega) (by omega))
       ·rcases Nat.lt_trichotomy i c with h3 | h3 | h3
        ·have:=T.len (i:=i+1) (j:=c) h3 I.KN
         omega
        ·subst h3;exact hcS hiS
        ·obtain⟨oi,qi,pii,_,Wv,_⟩:=T.at cB
         have:=I.late T h3 cB hiS Wv
         rw[T.SQ cB Wv this] at IK
         omega
     refine(T.W3 (Nat.le_of_lt hck) (Nat.le_of_lt A.lt) b J8 fun j hj1 VY q qi hq Wv hqw acL => ?_).symm
     obtain⟨pi',ajI,jM⟩:=At.pair T VY A.lt hq A.ep
     rw[A.epi] at ajI
     cases ajI
     unfold DI at jM
     rw[hqw,kU] at jM
     rcases jM with h | ⟨xa,xb,ha,wK,hun,Kt⟩
     ·exfalso
      rw[yR VY] at h
      have hjS:=A.anc j h
      rcases Nat.lt_or_ge c j with h3 | h3
      ·rcases I.late T h3 (Nat.lt_trans VY A.lt) hjS hq with h4 | h4<;>(rw[hqw] at h4;cases h4)
      ·have:j=c:=by omega
       subst this;exact hcS hjS
     ·rw[hx] at wK
      cases wK
      refine⟨xa,ha,fun e => ?_⟩
      have hk:=List.all_eq_true.1 N0 _ Kt
      unfold AX at hk
      rw[EX T (Nat.le_of_lt VY) (Nat.le_of_lt A.lt) hun,e,hb] at hk
      simp at hk
    ·refine T.W3 hck I.KN b aX fun j hj1 VY q qi hq Wv hqw acL => ?_
     have hjk:k<j:=by
      rcases Nat.lt_or_ge k j with h | h
      ·exact h
      ·have:j=k:=by omega
       subst this
       rw[A.ep] at hq
       cases hq
       rw[hqw] at kU
       cases kU
     have Tj:j<ops.size:=Nat.lt_of_lt_of_le VY I.KN
     obtain⟨oj,q',qi',hoj,Lc,Xd,awF,_,vj,hvj,_⟩:=T.at Tj
     rw[hq] at Lc
     cases Lc
     rw[Wv] at Xd
     cases Xd
     obtain⟨qi',Xd,jM⟩:=At.pair T hjk Tj A.ep hq
     rw[Wv] at Xd
     cases Xd
     unfold DI at jM
     rw[hqw,kU] at jM
     rcases jM with h | ⟨xa,xb,ha,wK,hun,Kt⟩
     ·exfalso
      rw[yR hjk] at h
      exact A.desc j Tj (I.before j q VY hq hqw) h
     ·rw[hx] at ha
      cases ha
      refine⟨xb,wK,fun e => ?_⟩
      have apU:qi.cf.all (AX (st j).1)=true:=by
       rcases tO hvj with⟨h,_⟩ | ⟨_,h,_⟩
       ·rw[acL] at h;cases h
       ·exact h
      have hk:=List.all_eq_true.1 apU _ Kt
      unfold AX at hk
      rw[EX T (Nat.le_of_lt hjk) (Nat.le_of_lt Tj) hun,e,hb] at hk
      simp at hk
  rw[key]
 ·exfalso
  rw[A.ok.op] at hp
  rcases rV hp with⟨g,as,rfl⟩ | ⟨g,as,rfl⟩
  ·simp only[fS] at kU
   split at kU<;>rcases kU with h | h<;>cases h
  ·rcases kU with h | h<;>cases h
end
end Go.PM
namespace Go.PM
section
variable {P:Program} {E:AO} {n:Nat} {ops:Array Oper} {tB:List PI} {ps:List nI} {M:List Nat} {call:fV} {lo L0:Nat} {st:Nat→Env×aE}
 {m0:dA} {w0:World} {ds:List Deferred}
theorem FF {H:aE} {b:Nat} (h:H.length≤b):¬Live H b:=fun hl=>by have:=hl.lt;omega
theorem Xz {S:Nat→Prop} {m:dA} {c:Nat} {a:Act} {w:World} {k:Nat} {o:Oper} (T:Text P E n ops tB ps M call lo st) (nU:wM P L0 call) (iD:L0≤lo) (zB:L0≤(st 0).2.length)
  (Be:∀b,(st 0).2.length≤b→b<(st ops.size).2.length→m0 b=none) (I:sM E n ops ps lo L0 st m0 w0 ds S m c a w) (ho:ops[k]? = some o) (hkS:¬S k)
  (hr:∀e∈o.after.toList,Region.binds .any e=true→S e.on) {K:Act→World→Prop} {Q:Exit→Act→World→Prop}
  (hK:∀m' c' a' w',sM E n ops ps lo L0 st m0 w0 ds (fun i=>i=k∨S i) m' c' a' w'→K a' w'):wpOp P ops Q k K a w:=by
 have aX:k<ops.size:=(Array.getElem?_eq_some_iff.1 ho).1
 obtain⟨o',p,pi,ho',hp,Vz,Dk,VU,v,hv,he⟩:=T.at aX
 rw[ho] at ho'
 cases ho'
 have ho2:ops.toList[k]? = some o:=by simpa using ho
 have A:At P E n ops tB ps M S k o p pi:=⟨aX,ho,hp,Vz,Dk,VU,hkS,fun i hi=>T.anc I.back ho2 hr hi,fun i hi hS hb=>by
  have hio:ops.toList[i]? = some ops[i]:=by simp[hi]
  exact hkS (T.anc I.back hio (I.back i _ hio hS) hb)⟩
 have Si:=A.reads I
 have acD:=T.len (i:=0) (j:=c) (Nat.zero_le _) I.KN
 have ahV:=T.len (i:=c) (j:=ops.size) I.KN (Nat.le_refl _)
 have aiT:=T.len (i:=0) (j:=k) (Nat.zero_le _) (Nat.le_of_lt aX)
 have arM:=T.len (i:=k+1) (j:=ops.size) aX (Nat.le_refl _)
 have aoA:=T.ajS aX
 have hfk:∀b,(st k).2.length≤b→b<(st (k+1)).2.length→m b=none:=by
  intro b h1 h2
  cases hm:m b with
  | none=>rfl
  |
   some l =>
   exfalso
   rcases I.VP b l hm with h3 | ⟨i,hiS,cB,hi1,IK⟩
   ·exact h3 (Be b (by omega) (by omega))
   ·rcases Nat.lt_trichotomy i k with h3 | h3 | h3
    ·have:=T.len (i:=i+1) (j:=k) h3 (Nat.le_of_lt aX)
     omega
    ·subst h3;exact hkS hiS
    ·have:=T.len (i:=k+1) (j:=i) h3 (Nat.le_of_lt cB)
     omega
 have P7:(fS E p = .pure∨fS E p = .look)→wpOp P ops Q k K a w:=by
  intro kU
  have hq:pi.quiet=false:=by
   rw[VU.quiet]
   rcases kU with h | h<;>rw[h]
  have hw:fS E p ≠ .write:=by rcases kU with h | h<;>(rw[h];exact fun h=>by cases h)
  refine NG ho Dk (fun h=>by rw[hq] at h;cases h) (I.look T A Be kU hv) Si I.rel iD (Nat.le_trans zB acD) (fun b h1 h2=>by omega) nU fun m' rv w' R9 hR hT => ?_
  rw[hq] at hT
  simp only[Bool.false_eq_true,if_false] at hT
  have hmm:m'=m:=by
   funext b
   cases hm:m b with
   | some l=>exact hT.ext b l hm
   |
    none =>
    cases hm':m' b with
    | none=>rfl
    | some l=>have:=(hT.new b l hm' hm).1;omega
  subst hmm
  refine hK m' c _ w' ⟨by rw[E3];exact I.FU,by rw[FD];exact I.defs,I.YP A hr,I.Mb T A (fun _ _ h=>h) R9 he,I.KN,fun i q h1 h2 h3 => .inr (I.before i q h1 h2 h3),?_,hR,?_,?_⟩
  ·intro h
   obtain⟨h1,q,h2,h3⟩:=I.atc h
   refine⟨fun hS=>hS.elim (fun e => ?_) h1,q,h2,h3⟩
   subst e
   rw[hp] at h2
   cases h2
   exact hw h3
  ·exact Trans.trans (fun b h1 h2=>Be b h1 (by omega)) (T.Wg (Nat.zero_le _) I.KN) (Ext.refl _ _) I.tr hT
  ·intro b l hb
   exact(I.VP b l hb).imp id fun⟨i,h1,h2⟩=>⟨i,.inr h1,h2⟩
 cases kU:fS E p with
 |
  write =>
  have hkc:k=c:=by
   rcases Nat.lt_trichotomy k c with h | h | h
   ·exact absurd (I.before k p h hp kU) hkS
   ·exact h
   ·exfalso
    obtain⟨hcS,pc,ZX,N1⟩:=I.atc (by omega)
    obtain⟨qi,_,jM⟩:=At.pair T h aX ZX hp
    unfold DI at jM
    rw[N1,kU] at jM
    simp only at jM
    rw[yR h] at jM
    exact hcS (A.anc c jM)
  subst hkc
  refine NG ho Dk (fun hq=>by rw[VU.quiet,kU] at hq;cases hq) hv Si I.rel iD (Nat.le_trans zB acD) hfk nU fun m' rv w' R9 hR hT => ?_
  have hq:pi.quiet=false:=by rw[VU.quiet,kU]
  rw[hq] at hT
  simp only[Bool.false_eq_true,if_false] at hT
  obtain⟨c',hc1,Ze,hc3,hc4⟩:=EC (fun i=>∃q,ps[i]? = some q∧fS E q = .write) _ (k+1) ops.size rfl aX
  have TH:∀b,b<(st (k+1)).2.length→(st c').2[b]? = (st (k+1)).2[b]? := T.same hc1 Ze fun i h1 h2 q hq hw=>hc3 i h1 h2 ⟨q,hq,hw⟩
  have aoF:=T.len hc1 Ze
  have ajR:=T.len (i:=c') (j:=ops.size) Ze (Nat.le_refl _)
  have akJ:∀b l,m' b=some l→m0 b≠none∨∃i,(i=k∨S i)∧i<ops.size∧(st i).2.length≤b∧b<(st (i+1)).2.length:=by
   intro b l hb
   cases hm:m b with
   | some l'=>exact(I.VP b l' hm).imp id fun⟨i,h1,h2⟩=>⟨i,.inr h1,h2⟩
   | none=>exact .inr ⟨k,.inl rfl,aX,(hT.new b l hb hm).1⟩
  have afI:∀b,(st (k+1)).2.length≤b→b<(st c').2.length→m' b=none:=by
   intro b h1 h2
   cases hm:m' b with
   | none=>rfl
   |
    some l =>
    exfalso
    rcases akJ b l hm with h3 | ⟨i,hiS,cB,hi1,IK⟩
    ·exact h3 (Be b (by omega) (by omega))
    ·rcases Nat.lt_trichotomy i k with h3 | h3 | h3
     ·have:=T.len (i:=i+1) (j:=k) h3 (Nat.le_of_lt aX)
      omega
     ·subst h3;omega
     ·obtain⟨oi,qi,pii,_,Wv,_⟩:=T.at cB
      have:=I.late T h3 cB (hiS.resolve_left (by omega)) Wv
      rw[T.SQ cB Wv this] at IK
      omega
  have hTT:Trans lo m0 (st 0).2 w0 m' (st (k+1)).2 w':=Trans.trans (fun b h1 h2=>Be b h1 (by omega)) (T.Wg (Nat.zero_le _) (Nat.le_of_lt aX)) (T.Wg (Nat.le_succ _) aX) I.tr hT
  refine hK m' c' _ w' ⟨by rw[E3];exact I.FU,by rw[FD];exact I.defs,I.YP A hr,I.Mb T A hT.ext R9 he,Ze,?_,?_,hR.grow TH afI,?_,akJ⟩
  ·intro i q hi hq hw
   rcases Nat.lt_trichotomy i k with h | h | h
   ·exact .inr (I.before i q h hq hw)
   ·exact .inl h
   ·exact absurd ⟨q,hq,hw⟩ (hc3 i h hi)
  ·intro h
   obtain⟨q,hq,hw⟩:=hc4 h
   refine⟨fun hS => ?_,q,hq,hw⟩
   rcases hS with hS | hS
   ·omega
   ·rcases I.late T (by omega) h hS hq with h4 | h4<;>(rw[hw] at h4;cases h4)
  ·refine⟨hTT.ext,fun b l hb hn => ?_,hTT.size,hTT.cZ,hTT.same⟩
   obtain⟨⟨h1,h2⟩,h3⟩:=hTT.new b l hb hn
   refine⟨⟨h1,by omega⟩,?_⟩
   rcases h3 with h3 | h3 | h3
   ·exact .inl h3
   ·exact .inr (.inl fun hl=>h3 ((iX (TH b h2)).1 hl))
   ·exact .inr (.inr h3)
 |
  quiet =>
  have hkc:k<c:=by
   rcases Nat.lt_or_ge k c with h | h
   ·exact h
   ·exfalso
    rcases Nat.lt_or_ge c k with h' | h'
    ·obtain⟨hcS,pc,ZX,N1⟩:=I.atc (by omega)
     obtain⟨qi,_,jM⟩:=At.pair T h' aX ZX hp
     unfold DI at jM
     rw[N1,kU] at jM
     simp only at jM
     rw[yR h'] at jM
     exact hcS (A.anc c jM)
    ·have:k=c:=by omega
     subst this
     obtain⟨_,pc,ZX,N1⟩:=I.atc aX
     rw[hp] at ZX
     cases ZX
     rw[kU] at N1
     cases N1
  have T5:∀i,k<i→i<c→∀q,ps[i]? = some q→fS E q ≠ .write:=by
   intro i h1 h2 q hq hw
   have cB:i<ops.size:=Nat.lt_of_lt_of_le h2 I.KN
   obtain⟨qi,_,jM⟩:=At.pair T h1 cB hp hq
   unfold DI at jM
   rw[kU,hw] at jM
   simp only at jM
   rw[yR h1] at jM
   exact A.desc i cB (I.before i q h2 hq hw) jM
  have KW:∀b,b<(st (k+1)).2.length→(st c).2[b]? = (st (k+1)).2[b]? := T.same hkc I.KN fun i h1 h2 q hq=>T5 i h1 h2 q hq
  have hs0:∀b,b<(st k).2.length→(st c).2[b]? = (st k).2[b]? := T.same (Nat.le_of_lt hkc) I.KN fun i h1 h2 q hq=>by
   rcases Nat.lt_or_ge k i with h | h
   ·exact T5 i h h2 q hq
   ·have:i=k:=by omega
    subst this
    rw[hp] at hq
    cases hq
    rw[kU]
    exact fun h=>by cases h
  have auO:=T.len (i:=k+1) (j:=c) hkc I.KN
  refine NG ho Dk (fun _=>kU) hv Si (I.rel.restrict hs0) iD (Nat.le_trans zB aiT) hfk nU fun m' rv w' R9 hR hT => ?_
  have hq:pi.quiet=true:=by rw[VU.quiet,kU]
  rw[hq] at hT
  simp only[if_true] at hT
  have Ay:∀rb,rb<w.heap.size→w'.heap[rb]? = w.heap[rb]? := fun rb BU=>hT.cZ rb BU fun b l hb _ hl=>absurd hl (FF hb)
  have mZ:∀b l,m' b=some l→m b=none→((st k).2.length≤b∧b<(st (k+1)).2.length)∧(w.heap.size≤l.rb∨¬Live (st (k+1)).2 b):=by
   intro b l h1 h2
   obtain⟨h3,h4⟩:=hT.new b l h1 h2
   refine⟨h3,?_⟩
   rcases h4 with h4 | h4 | ⟨b0,l0,g1,_,g3,_⟩
   ·exact .inl h4
   ·exact .inr h4
   ·exact absurd g3 (FF g1)
  have aiP:∀b l,m b=some l→l.rb<w.heap.size:=by
   intro b l hb
   obtain⟨arr,e,fz,h1,_⟩:=I.rel.valid b l hb
   exact(Array.getElem?_eq_some_iff.1 h1).1
  have Tc:∀rb j,rb<w.heap.size→w'.cell? ⟨rb,j,none⟩=w.cell? ⟨rb,j,none⟩:=by
   intro rb j BU
   unfold World.cell?
   simp only[Ay rb BU]
  have A5:∀b l,m' b=some l→(st (k+1)).2.length≤b→m b=some l:=by
   intro b l hb h
   cases hm:m b with
   | some l'=>have:=hT.ext b l' hm;rw[hb] at this;exact this.symm
   | none=>have:=(mZ b l hb hm).1.2;omega
  refine hK m' c _ w' ⟨by rw[E3];exact I.FU,by rw[FD];exact I.defs,I.YP A hr,I.Mb T A hT.ext R9 he,I.KN,fun i q h1 h2 h3 => .inr (I.before i q h1 h2 h3),?_,⟨hR.valid,?_,?_,?_⟩,?_,?_⟩
  ·intro h
   obtain⟨h1,q,h2,h3⟩:=I.atc h
   exact⟨fun hS=>hS.elim (fun e=>by omega) h1,q,h2,h3⟩
  ·intro b l cs e pp hm hb
   rcases Nat.lt_or_ge b (st (k+1)).2.length with h | h
   ·exact hR.row b l cs e pp hm (by rw[←KW b h];exact hb)
   ·have hmo:=A5 b l hm h
    obtain⟨h1,h2,h3,h4⟩:=I.rel.row b l cs e pp hmo hb
    refine⟨h1,h2,h3,fun i hi => ?_⟩
    obtain⟨rv',g1,g2,g3⟩:=h4 i hi
    exact⟨rv',by rw[Tc _ _ (aiP b l hmo)];exact g1,g2.mono hT.ext,g3⟩
  ·intro b1 b2 l1 l2 DB h1 h2 Dd GJ BU
   have fresh:∀b b' l l',m' b=some l→m b=none→m b'=some l'→Live (st c).2 b→l.rb=l'.rb→False:=by
    intro b b' l l' g1 g2 g3 g4 g5
    obtain⟨⟨_,g6⟩,g7⟩:=mZ b l g1 g2
    rcases g7 with g7 | g7
    ·have:=aiP b' l' g3;omega
    ·exact g7 ((iX (KW b g6)).1 g4)
   cases Np:m b1 with
   |
    some l1' =>
    cases Y8:m b2 with
    |
     some l2' =>
     have e1:l1'=l1:=by have:=hT.ext b1 l1' Np;rw[h1] at this;injection this with this;exact this.symm
     have e2:l2'=l2:=by have:=hT.ext b2 l2' Y8;rw[h2] at this;injection this with this;exact this.symm
     subst e1 e2
     exact I.rel.inj b1 b2 _ _ DB Np Y8 Dd GJ BU
    |
     none =>
     have e1:l1'=l1:=by have:=hT.ext b1 l1' Np;rw[h1] at this;injection this with this;exact this.symm
     subst e1
     exact(fresh b2 b1 _ _ h2 Y8 Np GJ BU.symm).elim
   |
    none =>
    cases Y8:m b2 with
    |
     some l2' =>
     have e2:l2'=l2:=by have:=hT.ext b2 l2' Y8;rw[h2] at this;injection this with this;exact this.symm
     subst e2
     exact(fresh b1 b2 _ _ h1 Np Y8 Dd BU).elim
    |
     none =>
     have g1:=(mZ b1 l1 h1 Np).1.2
     have g2:=(mZ b2 l2 h2 Y8).1.2
     exact hR.inj b1 b2 l1 l2 DB h1 h2 ((iX (KW b1 g1)).1 Dd) ((iX (KW b2 g2)).1 GJ) BU
  ·intro x hx
   refine⟨(hR.Co x hx).1,fun b l hb hm hl => ?_⟩
   obtain⟨⟨e0,fz0,q1⟩,q2⟩:=I.rel.Co x hx
   cases Np:m b with
   |
    some l' =>
    have e1:l'=l:=by have:=hT.ext b l' Np;rw[hm] at this;injection this with this;exact this.symm
    subst e1
    exact q2 b l' hb Np hl
   |
    none =>
    obtain⟨⟨_,g6⟩,g7⟩:=mZ b l hm Np
    rcases g7 with g7 | g7
    ·have:=(Array.getElem?_eq_some_iff.1 q1).1
     omega
    ·exact(g7 ((iX (KW b g6)).1 hl)).elim
  ·refine⟨fun b l hb=>hT.ext b l (I.tr.ext b l hb),fun b l hb hn => ?_,Nat.le_trans I.tr.size hT.size,fun rb BU hk => ?_,hT.same.1.trans I.tr.same.1,hT.same.2.1.trans I.tr.same.2.1,hT.same.2.2.trans I.tr.same.2.2⟩
   ·cases hm:m b with
    |
     some l' =>
     have e1:l'=l:=by have:=hT.ext b l' hm;rw[hb] at this;injection this with this;exact this.symm
     subst e1
     exact I.tr.new b l' hm hn
    |
     none =>
     obtain⟨⟨g1,g2⟩,g3⟩:=mZ b l hb hm
     refine⟨⟨by omega,by omega⟩,?_⟩
     rcases g3 with g3 | g3
     ·exact .inl (Nat.le_trans I.tr.size g3)
     ·exact .inr (.inl fun hl=>g3 ((iX (KW b g2)).1 hl))
   ·rw[Ay rb (Nat.lt_of_lt_of_le BU I.tr.size),I.tr.cZ rb BU hk]
  ·intro b l hb
   cases hm:m b with
   | some l'=>exact(I.VP b l' hm).imp id fun⟨i,h1,h2⟩=>⟨i,.inr h1,h2⟩
   | none=>exact .inr ⟨k,.inl rfl,aX,(mZ b l hb hm).1⟩
 | pure=>exact P7 (.inl kU)
 | look=>exact P7 (.inr kU)
end
end Go.PM
namespace Go.PM
section
variable {P:Program} {E:AO} {n:Nat} {call:fV} {lo L0:Nat}
theorem Trans.fresh {m m':dA} {H H1 H2:aE} {w w':World} (h:Trans lo m H w m' H1 w') (h1:H.length≤H1.length) (hf:∀b,H.length≤b→b<H2.length→m b=none):∀b,H1.length≤b→b<H2.length→m' b=none:=by
 intro b DB hb2
 cases hm:m' b with
 | none=>rfl
 |
  some l =>
  exfalso
  have hn:=hf b (by omega) hb2
  have:=(h.new b l hm hn).1
  omega
structure Hc (n L0:Nat) (m:dA) (ρ:Env) (H:aE) (a:Act) (w:World):Prop where
 FU:a.tmps.size=n
 defs:a.defers=[]
 env:∀t,RV m (ρ t) (a.tmps.getD t undef)
 rel:Rel m L0 H w
theorem Ls {p q:Nat→Bool}:∀ {l:List Nat} {i:Nat},(∀x∈l,q x=true→p x=true)→i∈l→p i=true→q i=false→l.countP q<l.countP p
 |
  x::l,i,h,hi,hp,hq=>by
  rw[List.countP_cons,List.countP_cons]
  have hle:l.countP q≤l.countP p:=List.countP_mono_left fun x hx=>h x (List.mem_cons_of_mem _ hx)
  rcases List.mem_cons.1 hi with rfl | hi
  ·rw[if_neg (by simp[hq]),if_pos hp];omega
  ·have:=Ls (fun x hx=>h x (List.mem_cons_of_mem _ hx)) hi hp hq
   have:(if q x=true then 1 else 0)≤(if p x=true then 1 else 0):=by
    by_cases hqx:q x=true
    ·rw[if_pos hqx,if_pos (h x List.mem_cons_self hqx)];omega
    ·rw[if_neg hqx];omega
   omega
theorem J9 {listed:Array Bool} {k i:Nat} (hk:k<listed.size):(listed.setIfInBounds k true).getD i false=true↔(i=k∨listed.getD i false=true):=by
 rcases Nat.lt_or_ge i listed.size with h | h
 ·by_cases e:i=k
  ·subst e;simp[h]
  ·simp[h,e,Ne.symm e]
 ·have:i≠k:=by omega
  simp[h,this]
theorem aaI {ops:Array Oper} {tB:List PI} {ps:List nI} {M:List Nat} {st:Nat→Env×aE} {m0:dA} {w0:World} (T:Text P E n ops tB ps M call lo st) (nU:wM P L0 call) (iD:L0≤lo) (zB:L0≤(st 0).2.length)
  (Be:∀b,(st 0).2.length≤b→b<(st ops.size).2.length→m0 b=none) {Q:Exit→Act→World→Prop}
  (hQ:∀m' a' w',Hc n L0 m' (st ops.size).1 (st ops.size).2 a' w'→Trans lo m0 (st 0).2 w0 m' (st ops.size).2 w'→Q .normal a' w') :
  ∀(fuel:Nat) (listed:Array Bool) (m:dA) (c:Nat) (a:Act) (w:World),listed.size=ops.size→((List.range ops.size).countP fun i => !listed.getD i false)≤fuel →
  sM E n ops ps lo L0 st m0 w0 [] (fun i=>listed.getD i false=true) m c a w→wpAny P .any ops Q fuel listed a w:=by
 have fin:∀(listed:Array Bool) (m:dA) (c:Nat) (a:Act) (w:World),listed.size=ops.size→(Region.ready .any ops listed=[])→sM E n ops ps lo L0 st m0 w0 [] (fun i=>listed.getD i false=true) m c a w→Q .normal a w:=by
  intro listed m c a w hs hr I
  have all:∀i,i<ops.size→listed.getD i false=true:=by
   intro i
   induction i using Nat.strongRecOn with
   |
    _ i ih =>
    intro hi
    cases hl:listed.getD i false with
    | true=>rfl
    |
     false =>
     exfalso
     obtain⟨o,p,pi,ho,_,_,_,VU,_⟩:=T.at hi
     have:i∈Region.ready .any ops listed:=by
      rw[mem_ready]
      refine⟨?_,o,ho,fun e he hb => ?_⟩
      ·have RH:i<listed.size:=by omega
       simpa[RH] using hl
      ·have:=VU.back e (by simpa using he) hb
       exact ih e.on this (by omega)
     rw[hr] at this
     cases this
  have hcN:c=ops.size:=by
   rcases Nat.lt_or_ge c ops.size with h | h
   ·exact absurd (all c h) (I.atc h).1
   ·have:=I.KN;omega
  subst hcN
  exact hQ m a w ⟨I.FU,I.defs,fun t=>I.tm t ops.size (Nat.le_refl _) fun i o hi _=>⟨fun _=>EA hi,fun h=>all i h⟩,I.rel⟩ I.tr
 intro fuel
 induction fuel with
 |
  zero =>
  intro listed m c a w hs hc I
  have hr:Region.ready .any ops listed=[]:=by
   rw[List.eq_nil_iff_forall_not_mem]
   intro i hi
   have BP:=mem_ready.1 hi
   obtain⟨h1,o,ho,_⟩:=BP
   have aX:i<ops.size:=(Array.getElem?_eq_some_iff.1 ho).1
   have h0:((List.range ops.size).countP fun i => !listed.getD i false)=0:=by omega
   rw[List.countP_eq_zero] at h0
   have:=h0 i (List.mem_range.2 aX)
   have RH:i<listed.size:=by omega
   simp[RH] at this h1
   rw[h1] at this
   cases this
  exact⟨hr,fin listed m c a w hs hr I⟩
 |
  succ fuel ih =>
  intro listed m c a w hs hc I
  refine⟨fun hr=>fin listed m c a w hs hr I,fun k hk => ?_⟩
  obtain⟨h1,o,ho,hb⟩:=mem_ready.1 hk
  have aX:k<ops.size:=(Array.getElem?_eq_some_iff.1 ho).1
  have hkl:k<listed.size:=by omega
  have hkf:listed.getD k false=false:=by simpa[hkl] using h1
  refine Xz T nU iD zB Be I ho (by rw[hkf];exact fun h=>by cases h) (fun e he Zc=>hb e (by simpa using he) Zc) fun m' c' a' w' I'=>ih _ m' c' a' w' (by simpa using hs) ?_ ?_
  ·have:((List.range ops.size).countP fun i => !(listed.setIfInBounds k true).getD i false)<((List.range ops.size).countP fun i => !listed.getD i false):=by
    refine Ls (i:=k) (fun x _ hx => ?_) (List.mem_range.2 aX) (by rw[hkf];rfl) ?_
    ·cases hlx:listed.getD x false with
     | false=>rfl
     |
      true =>
      have:=(J9 (i:=x) hkl).2 (.inr hlx)
      rw[this] at hx
      cases hx
    ·rw[(J9 hkl).2 (.inl rfl)];rfl
   omega
  ·have e:(fun i=>(listed.setIfInBounds k true).getD i false=true)=fun i=>i=k∨listed.getD i false=true:=by
    funext i
    exact propext (J9 hkl)
   rw[e]
   exact I'
theorem Rel.drew {m:dA} {H:aE} {w w':World} (h:Rel m L0 H w) (hw:w'.heap=w.heap):Rel m L0 H w':=by
 have hc:∀x,w'.cell? x=w.cell? x:=fun x=>by unfold World.cell?;rw[hw]
 refine⟨fun b l hb=>by rw[hw];exact h.valid b l hb,fun b l cs e p hm hb => ?_,h.inj,fun x hx=>⟨by rw[hw];exact(h.Co x hx).1,(h.Co x hx).2⟩⟩
 obtain⟨h1,h2,h3,h4⟩:=h.row b l cs e p hm hb
 refine⟨h1,h2,h3,fun i hi => ?_⟩
 rw[hc]
 exact h4 i hi
theorem Sc {id:Nat} {ops:Array Oper} {draw:Bool} {tB:List PI} (Cn:P.follows .mixedOrders=true) (nU:wM P L0 call) (qZ:rJ call) (hp:yI P E n ops draw=some tB) {ρ aM:Env} {H H':aE}
  (hv:gZ call lo tB ρ H=some (aM,H')) {m:dA} {a:Act} {w:World} (h:Hc n L0 m ρ H a w) (iD:L0≤lo) (hlen:L0≤H.length) (hf:∀b,H.length≤b→b<H'.length→m b=none) {Q:Exit→Act→World→Prop}
  (hQ:∀m' a' w',Hc n L0 m' aM H' a' w'→Trans lo m H w m' H' w'→Q .normal a' w'):(Code.region id ops draw).wp P Q a w:=by
 obtain⟨ps,M,Dk⟩:=Is hp
 obtain⟨st,hs0,hsn,uU⟩:=F4 hv
 have hN:tB.length=ops.size:=by rw[Dk.aoL];simp
 rw[hN] at hsn
 cases draw with
 |
  true =>
  have T:Text P E n ops tB ps M call lo st:=⟨Dk,qZ,uU⟩
  apply wp_region_any Cn
  have e0:(st 0).1=ρ:=by rw[hs0]
  have e1:(st 0).2=H:=by rw[hs0]
  have e2:(st ops.size).1=aM:=by rw[hsn]
  have e3:(st ops.size).2=H':=by rw[hsn]
  obtain⟨c,hc1,Ze,hc3,hc4⟩:=EC (fun i=>∃q,ps[i]? = some q∧fS E q = .write) _ 0 ops.size rfl (Nat.zero_le _)
  have TH:=T.same hc1 Ze fun i h1 h2 q hq hw=>hc3 i h1 h2 ⟨q,hq,hw⟩
  have ahV:=T.len hc1 Ze
  have ajR:=T.len (i:=c) (j:=ops.size) Ze (Nat.le_refl _)
  have Xb:=h.rel.grow (by rw[←e1];exact TH) (fun b h1 h2=>hf b h1 (by rw[←e3];omega))
  have WI:∀i,(Array.replicate ops.size false).getD i false=true→False:=by
   intro i hi
   rcases Nat.lt_or_ge i ops.size with h | h<;>simp[h] at hi
  refine aaI (m0:=m) (w0:=w) T nU iD (by rw[e1];exact hlen) (by rw[e1,e3];exact hf) (by rw[e1,e2,e3];exact hQ) ops.size _ m c a _ (by simp) (Nat.le_trans List.countP_le_length (by simp)) ?_
  refine⟨h.FU,h.defs,fun i o _ hi=>(WI i hi).elim,fun t j hj hw => ?_,Ze,fun i q hi hq hw=>absurd ⟨q,hq,hw⟩ (hc3 i (Nat.zero_le _) hi),fun hc=>⟨fun h=>WI _ h,hc4 hc⟩,Xb.drew rfl,?_,fun b l hb => .inl (by rw[hb];exact fun h=>by cases h)⟩
  ·have e:(st j).1 t=ρ t:=by
    rw[←e0]
    refine T.NR (Nat.zero_le _) hj fun i oi _ IK hoi hd => ?_
    have Ol:ops.toList[i]? = some oi:=by simpa using hoi
    exact(WI i ((hw i oi Ol hd).2 IK)).elim
   rw[e]
   exact h.env t
  ·rw[e1]
   refine⟨fun _ _ h=>h,fun b l hb hn=>(by rw[hb] at hn;cases hn),Nat.le_refl _,fun _ _ _=>rfl,rfl,rfl,rfl⟩
 |
  false =>
  apply wp_region
  have key:∀d i,ops.size-i=d→i≤ops.size→∀m1 a1 w1,Hc n L0 m1 (st i).1 (st i).2 a1 w1→L0≤(st i).2.length→(∀b,(st i).2.length≤b→b<H'.length→m1 b=none) →
    (∀m' a' w',Hc n L0 m' aM H' a' w'→Trans lo m1 (st i).2 w1 m' H' w'→Q .normal a' w')→wpOps P ops Q ((List.range ops.size).drop i) a1 w1:=by
   intro d
   induction d with
   |
    zero =>
    intro i hd hi m1 a1 w1 h1 _ _ hQ1
    have:i=ops.size:=by omega
    subst this
    rw[List.drop_eq_nil_of_le (by simp)]
    rw[hsn] at h1 hQ1
    exact hQ1 m1 a1 w1 h1 (Trans.refl _ _ _ _)
   |
    succ d ih =>
    intro i hd hi m1 a1 w1 h1 Dd hf1 hQ1
    have aX:i<ops.size:=by omega
    rw[List.drop_eq_getElem_cons (by simpa using aX),wpOps_cons]
    have ho:ops.toList[i]? = some ops[i]:=by simp[aX]
    obtain⟨p,pi,hp1,hp2,adL,_,VU⟩:=Dk.each i _ ho
    have zH:=uU i pi hp2
    obtain⟨v,hv1,hv2⟩:=yE zH
    have hq:pi.quiet=false:=(VU rfl).1
    have hE1:=GL qZ zH
    have V7:Ext lo (st (i+1)).2 H':=by
     have:∀d j,ops.size-j=d→j≤ops.size→Ext lo (st j).2 H':=by
      intro d
      induction d with
      | zero =>
        intro j hd hj;have:j=ops.size:=by omega
        subst this;rw[hsn];exact Ext.refl _ _
      |
       succ d ih =>
       intro j hd hj
       have hjl:j<tB.length:=by omega
       exact(GL qZ (uU j tB[j] (List.getElem?_eq_getElem hjl))).trans (ih (j+1) (by omega) (by omega))
     exact this _ (i+1) rfl aX
    have DA:(List.range ops.size)[i]'(by simpa using aX)=i:=by simp
    rw[DA]
    refine NG (by simp[aX]) adL (fun h=>by rw[hq] at h;cases h) hv1 (fun t _=>h1.env t) h1.rel iD Dd (fun b DB hb2=>hf1 b DB (Nat.lt_of_lt_of_le hb2 V7.len)) nU fun m' rv w' R9 hR hT => ?_
    rw[hq] at hT
    simp only[Bool.false_eq_true,if_false] at hT
    refine ih (i+1) (by omega) aX m' _ w' ⟨by rw[E3];exact h1.FU,by rw[FD];exact h1.defs,fun t => ?_,hR⟩ (Nat.le_trans Dd hE1.len) (hT.fresh hE1.len hf1) fun m2 a2 w2 h2 hT2=>hQ1 m2 a2 w2 h2 (Trans.trans hf1 hE1 V7 hT hT2)
    rw[hv2,adL.dst]
    cases hd:ops[i].dst with
    | none=>exact(h1.env t).mono hT.ext
    |
     some d =>
     rw[P8 (by rw[h1.FU];exact adL.bound d hd)]
     show RV m' (if t=d then v else (st i).1 t) _
     by_cases e:t=d
     ·rw[if_pos e,if_pos e];exact R9
     ·rw[if_neg e,if_neg e];exact(h1.env t).mono hT.ext
  have:=key ops.size 0 (by omega) (Nat.zero_le _) m a w (by rw[hs0];exact h) (by rw[hs0];exact hlen) (by rw[hs0];exact hf) (by rw[hs0];exact hQ)
  simpa using this
end
end Go.PM