/- Texts of a claim, in one: part 2. -/
import Derived.LoopN
import Derived.Test.YtjmflicajplclaaGreatDoorKAa
open Array renaming getElem?_eq_none → aLi,getElem?_eq_some_iff → aKN,range → aK7,toList_inj → aKU
open Bool renaming and_eq_true → aLc,false_eq_true → aLg,or_eq_true → aLh
open Function renaming comp_def → aKT
open List renaming all_eq_true → aKS,eq_nil_of_length_eq_zero → aKK,getD_eq_getElem?_getD → aKB,getElem?_append_left → aKV,getElem?_eq_getElem → aKL,getElem?_eq_some_iff → aKD,getElem?_set_ne → aK3,mem_cons_of_mem → aLd,mem_cons_self → aLe,mem_range → aLf,range → aKA
open Nat renaming add_mul → aK9,le_mul_of_pos_right → aLa,le_of_lt → aLl,le_refl → aKE,le_trans → aKF,lt_of_lt_of_le → aKG,lt_or_ge → aKH,lt_trichotomy → aLk,min → aLb,mod_lt → aK6,mul_le_mul_right → aK5,zero_le → aK8
open Option renaming isSome_none → aLj
set_option linter.unusedSimpArgs false
set_option linter.unusedVariables false
namespace Go.PM
section
variable {P:Program} {m:dL} {L0:Nat} {H:aI} {w:World}
theorem RL.const {zs:List Value} (h:zs.all mU=true):RL m zs zs :=
 ⟨rfl,fun j hj=>by
  have:=RV.const (m:=m) (aKS.1 h _ (List.getElem_mem hj))
  simpa[aKB,aKL hj] using this⟩
theorem yX (n:Nat) (zs:List Value):(dF n zs).length=n*zs.length:=by simp[dF]
theorem Az (n:Nat) {zs:List Value} (h:zs.all mU=true) (h0:1≤zs.length):RL m (dF n zs) (dF n zs):=by
 refine⟨rfl,fun i hi => ?_⟩
 rw[yX] at hi
 have bI:i % zs.length<zs.length:=aK6 _ h0
 have e:(dF n zs).getD i undef=zs.getD (i % zs.length) undef:=by simp[dF,aKB,hi]
 rw[e]
 exact(RL.const h).2 _ bI
theorem Wp (n:Nat) {zs:List Value} (h:zs.all iQ=true) (h0:1≤zs.length):(dF n zs).all iQ=true:=by
 rw[aKS]
 intro x hx
 obtain⟨i,_,rfl⟩:=List.mem_map.1 hx
 have bI:i % zs.length<zs.length:=aK6 _ h0
 have:=aKS.1 h _ (List.getElem_mem bI)
 simpa[aKB,aKL bI] using this
theorem MF (z:Array Value) (n:Nat) (h0:1≤z.size):(madeCells z (n*z.size)).toList=dF n z.toList:=by
 apply List.ext_getElem
 ·simp[madeCells,dF]
 ·intro i h1 h2
  have bI:i % z.size<z.size:=aK6 _ h0
  simp[madeCells,dF,bI]
theorem Jt (z:Array Value) (n:Nat) (h0:1≤z.size):(Builtin.zeroCells z n).toList=dF n z.toList:=by
 apply List.ext_getElem
 ·simp[Builtin.zeroCells,dF]
 ·intro i h1 h2
  have bI:i % z.size<z.size:=aK6 _ h0
  simp[Builtin.zeroCells,dF,bI]
theorem alZ {t:TypeId} {agg:Bool} {size nb lo:Nat} {z:List Value} (ht:oN P t=some (agg,size,z,nb)) (Kq:z.all iQ=true) (Nz:z.all mU=true) (hR:Rel m L0 H w) (hf:m H.length=none) :
  cS P (do pure (.value (←Instr.alloc t true (.tuple #[])))) L0 lo m H w (.pointer (some ⟨H.length,0,none⟩)) (H++[.row z z.length false]):=by
 obtain⟨i,d,zz,hi,hd,KO,rfl,rfl,rfl,rfl⟩:=kM ht
 have tA:(Instr.alloc t true (.tuple #[])).run P w = .ok (.pointer (some ⟨w.heap.size,0,none⟩)) (w.alloc (.cells zz.cells t)):=by
  simp[Instr.alloc,zeroValue,typeInfo,hi,KO,newVar,newRow]
 have hA:=AO hR hf (w':=w.alloc (.cells zz.cells t)) (arr:=zz.cells) (e:=t) (fz:=(0,0)) rfl ⟨rfl,rfl,rfl⟩ (cs:=aV zz) (gR:=(aV zz).length) (WQ:=false)
  (by rw[fS];exact aKE _) (fun i hi=>by
   have:=(RL.const (m:=m) Nz).2 i hi
   rwa [←B6,gW]) Kq (fun j _ h=>by simp at h)
 exact cS.value tA (.ptr _ 0 _ (cC m _ _)) hA.1 (hA.2 lo)
theorem akF {t:TypeId} {v r:Value} {lo:Nat} (hv:RV m v r) (hs:(aV v).all iQ=true) (hR:Rel m L0 H w) (hf:m H.length=none) :
  cS P (do pure (.value (←Instr.box t r))) L0 lo m H w (.pointer (some ⟨H.length,0,none⟩)) (H++[.row (aV v) (aV v).length false]):=by
 have tA:(Instr.box t r).run P w = .ok (.pointer (some ⟨w.heap.size,0,none⟩)) (w.alloc (.cells r.cells t)):=by
  simp[Instr.box,newVar,newRow]
 have hA:=AO hR hf (w':=w.alloc (.cells r.cells t)) (arr:=r.cells) (e:=t) (fz:=(0,0)) rfl ⟨rfl,rfl,rfl⟩ (cs:=aV v) (gR:=(aV v).length) (WQ:=false)
  (by rw[fS,hv.aV.1];exact aKE _) (fun i hi=>by
   have:=hv.aV.2 i hi
   rwa [←B6,gW]) hs (fun j _ h=>by simp at h)
 exact cS.value tA (.ptr _ 0 _ (cC m _ _)) hA.1 (hA.2 lo)
theorem adI {t:TypeId} {agg:Bool} {size nb lo:Nat} {z:List Value} {kl kc:IntKind} {l c:Int} (ht:lS P t=some (agg,size,z,nb)) (Kq:z.all iQ=true) (Nz:z.all mU=true) (Zj:size=z.length) (CL:1≤size)
  (hl:0≤l) (hlc:l≤c) (hb:c*nb≤281474976710656) (hc:c≤9223372036854775807) (hR:Rel m L0 H w) (hf:m H.length=none) :
  cS P (do pure (.value (←Instr.makeSlice t (.int kl l) (.int kc c)))) L0 lo m H w (.slice (some ⟨H.length,0,none⟩) l.toNat c.toNat) (H++[.row (dF c.toNat z) z.length false]):=by
 obtain⟨e,hu,LJ⟩:=lF ht
 obtain⟨i,d,zz,hi,hd,KO,rfl,rfl,rfl,rfl⟩:=kM LJ
 have tA:=run_make (P:=P) w t e i zz hu hi KO kl kc l c hl hlc (by rw[Int.mul_comm];exact hb) hc
 have E7:i.size=zz.cells.size:=by rw[Zj,fS]
 rw[E7] at tA CL
 have rG:(madeCells zz.cells (c.toNat*zz.cells.size)).toList=dF c.toNat (aV zz):=by rw[MF _ _ CL,gW]
 have aA3:(madeCells zz.cells (c.toNat*zz.cells.size)).size=c.toNat*(aV zz).length:=by rw[size_madeCells,fS]
 have adB:1≤(aV zz).length:=by rw[←fS];exact CL
 have hA:=AO hR hf (w':=w.alloc (.cells (madeCells zz.cells (c.toNat*zz.cells.size)) e)) (arr:=madeCells zz.cells (c.toNat*zz.cells.size)) (e:=e) (fz:=(0,0)) rfl ⟨rfl,rfl,rfl⟩
  (cs:=dF c.toNat (aV zz)) (gR:=(aV zz).length) (WQ:=false) (by rw[aA3,yX];exact aKE _) (fun j hj=>by
   have:=(Az (m:=m) c.toNat Nz adB).2 j hj
   rwa [←B6,rG]) (Wp _ Kq adB) (fun j _ h=>by simp at h)
 refine cS.value tA ?_ hA.1 (hA.2 lo)
 exact .slice _ 0 _ _ _ _ _ (cC m _ _) (by omega) (aKE _) (fun _=>rfl) (.inr ⟨rfl,by simp only[aA3];omega⟩)
theorem aiS {t:TypeId} {agg:Bool} {size nb lo n:Nat} {z cs:List Value} {parts:List (Nat×Operand)} {ρ:Env} {a:Act} (ht:lS P t=some (agg,size,z,nb)) (Kq:z.all iQ=true) (Nz:z.all mU=true) (Zj:size=z.length) (CL:1≤size) (hn:n*size≤16777216)
  (avM:Aw ((aKA n).map fun i=>(i*z.length,z.length)) (dF n z) (parts.map fun(i,x)=>(i,ev ρ x))=some cs) (EM:cs.all iQ=true) (hr:∀p∈parts,RV m (ev ρ p.2) (a.eval p.2))
  (hR:Rel m L0 H w) (hf:m H.length=none) :
  cS P (do pure (.value (←Instr.buildSlice t n (parts.toArray.map fun(i,x)=>(i,a.eval x))))) L0 lo m H w (.slice (some ⟨H.length,0,none⟩) n n) (H++[.row cs z.length false]):=by
 obtain⟨e,hu,LJ⟩:=lF ht
 obtain⟨i,d,zz,hi,hd,KO,rfl,rfl,rfl,rfl⟩:=kM LJ
 have E7:i.size=zz.cells.size:=by rw[Zj,fS]
 have adB:1≤(aV zz).length:=by rw[←fS,←E7];exact CL
 have Qa:∀j q,((aKA n).map fun i=>(i*(aV zz).length,(aV zz).length))[j]? = some q→(fun i'=>some (i'*i.size,i.size):Nat→Option (Nat×Nat)) j=some q:=by
  intro j q hj
  simp only[List.getElem?_map,Option.map_eq_some_iff] at hj
  obtain⟨k,hk,rfl⟩:=hj
  have hk':=(aKD.1 hk)
  obtain⟨hk1,ZH⟩:=hk'
  simp at ZH
  subst ZH
  rw[←Zj]
 have hz:RL m (dF n (aV zz)) ((aK7 (n*i.size)).map (zz.cells[· % zz.cells.size]!)).toList:=by
  have:=Az (m:=m) n Nz adB
  rw[E7]
  have e1:=MF zz.cells n (by rw[←E7];exact CL)
  rw[gW] at e1
  show RL m _ (madeCells zz.cells (n*zz.cells.size)).toList
  rw[e1]
  exact this
 obtain⟨P7,h1,h2⟩:=Vp (m:=m) _ _ Qa (parts.map fun(i,x)=>(i,ev ρ x)) (parts.map fun(i,x)=>(i,a.eval x)) _ _ cs
  (by simp[aKT]) (by simpa[aKT] using RL.map (l:=parts) (f:=fun p=>ev ρ p.2) (g:=fun p=>a.eval p.2) hr) hz avM
 have hlen:cs.length=n*(aV zz).length:=by rw[SM _ _ _ _ avM,yX]
 have emap:(Array.map (fun x:Nat×Operand=>(x.1,a.eval x.2)) parts.toArray).toList=parts.map fun(i,x)=>(i,a.eval x):=by simp
 have YH:¬(2^24<n*i.size):=by omega
 have tA:(Instr.buildSlice t n (parts.toArray.map fun(i,x)=>(i,a.eval x))).run P w = .ok (.slice (some ⟨w.heap.size,0,none⟩) n n) (w.alloc (.cells P7 e)):=by
  have h1':Instr.fill (fun i'=>some (i'*i.size,i.size)) ((aK7 (n*i.size)).map (zz.cells[· % zz.cells.size]!)) (Array.map (fun x:Nat×Operand=>(x.1,a.eval x.2)) parts.toArray).toList=some P7:=by rw[emap];exact h1
  by_cases hn0:n*i.size=0
  ·rw[hn0] at h1'
   simp only[show ∀f:Nat→Value,(aK7 0).map f = #[] from fun f=>by simp] at h1'
   unfold Instr.buildSlice
   simp only[Sem.run_bind,run_underlying hu,Result.andThen_ok,run_sizeOf e i hi,hn0,if_true,Sem.run_pure,show ¬(0>2^24) by omega,if_false]
   rw[show ∀f:Nat→Value,(aK7 0).map f = #[] from fun f=>by simp]
   simp only[h1']
   simp[newRow]
  ·unfold Instr.buildSlice
   simp only[Sem.run_bind,run_underlying hu,Result.andThen_ok,run_sizeOf e i hi,hn0,if_false,Sem.run_pure,gt_iff_lt,YH,zeroValue,typeInfo,run_program,hi,KO]
   simp only[h1']
   simp[newRow]
 have hrs:P7.size=n*(aV zz).length:=by rw[←hlen];simpa using h2.1.symm
 have hA:=AO hR hf (w':=w.alloc (.cells P7 e)) (arr:=P7) (e:=e) (fz:=(0,0)) rfl ⟨rfl,rfl,rfl⟩ (cs:=cs) (gR:=(aV zz).length) (WQ:=false)
  (by rw[hlen,hrs];exact aKE _) (fun j hj=>by rw[←B6];exact h2.2 j hj) EM (fun j _ h=>by simp at h)
 refine cS.value tA ?_ hA.1 (hA.2 lo)
 exact .slice _ 0 _ _ _ _ _ (cC m _ _) (aKE _) (aKE _) (fun _=>rfl) (.inr ⟨rfl,by simp only[hrs];omega⟩)
theorem XV (g:Value→ByteArray→Sem (ForInStep ByteArray)) (hg:∀n s,g (.int .u8 n) s=pure (ForInStep.yield (s.push (UInt8.ofNat n.toNat)))):∀(cs rs:List Value) (bs:List UInt8) (acc:ByteArray),RL m cs rs→xT cs=some bs→∀w,
  (forIn rs acc g).run P w = .ok ⟨(acc.data.toList++bs).toArray⟩ w:=by
 intro cs
 induction cs with
 |
  nil =>
  intro rs bs acc hr hb w
  have e0:rs=[]:=aKK hr.1.symm
  subst e0
  cases hb
  simp
 |
  cons c cs ih =>
  intro rs bs acc hr hb w
  cases rs with
  | nil=>exact absurd hr.1 (by simp)
  |
   cons r rs =>
   obtain⟨hc,OR⟩:=hr.lK
   unfold xT at hb
   split at hb
   ·rename_i heq;cases heq
   ·rename_i n rest heq
    cases heq
    cases hc
    cases h2:xT cs with
    | none=>rw[h2] at hb;cases hb
    |
     some bs' =>
     rw[h2] at hb
     cases hb
     simp only[List.forIn_cons,hg,Sem.run_bind,Sem.run_pure,Result.andThen_ok]
     rw[ih rs bs' _ OR h2 w]
     simp[ByteArray.push]
   ·cases hb
theorem alQ {s d e:TypeId} {rp:Value} {lo n b off c:Nat} {cs:List Value} {bs:List UInt8} (hs:P.underlying s=some (.slice e)) (hd:P.underlying d=some .string) (he:P.underlying e=some (.int .u8))
  (HY:H.read b off n=some cs) (hb:xT cs=some bs) (hR:Rel m L0 H w) (hp:RV m (.slice (some ⟨b,off,none⟩) n c) rp) :
  cS P (do pure (.value (←convert s d rp))) L0 lo m H w (.string ⟨bs.toArray⟩) H:=by
 cases hp with
 |
  slice _ _ _ _ l ra rc hm hn hc hx ha =>
  obtain⟨rs,h1,h2,_,h3⟩:=AY hR hm HY
  have aAK:(loadCells ra n).run P w = .ok rs.toArray w:=by
   rcases ha with ha | ⟨rfl,ha⟩
   ·have h0:n=0:=by omega
    subst h0
    have e0:rs=[]:=aKK h2
    subst e0
    rfl
   ·rw[←h2]
    exact run_loadCells_list w _ rs h3
  refine cS.value (rv := .string ⟨bs.toArray⟩) (w':=w) (m':=m) ?_ (.str _) hR (Trans.refl lo m H w)
  simp only[convert,Sem.run_bind,run_underlying hs,run_underlying hd,Result.andThen_ok,run_underlying he,Conv.bytesToString,aAK,←Array.forIn_toList]
  rw[XV (P:=P) (m:=m) _ (fun n s=>rfl) cs rs bs ByteArray.empty h1 hb w]
  simp
theorem QO {t e:TypeId} {i:TypeInfo} (hu:P.underlying t=some (.slice e)) (hi:P.info? e=some i) {a:Option Addr} {n c:Nat} {lo qQ mx:Option Value} {l h k:Nat}
  (hb:(Instr.sliceBounds true n c lo qQ mx).run P w = .ok (l,h,k) w) :
  (Instr.sliceAt t (.slice a n c) lo qQ mx).run P w = .ok (.slice (if k=l then a else a.map (·.add (l*i.size))) (h-l) (k-l)) w:=by
 have h1:(Instr.sliceAt t (.slice a n c) lo qQ mx).run P w=(Instr.slice t (.slice a n c) lo qQ mx).run P w:=by
  unfold Instr.sliceAt
  rw[Sem.run_bind,run_underlying hu,Result.andThen_ok]
 rw[h1]
 unfold Instr.slice
 rw[Sem.run_bind,run_underlying hu,Result.andThen_ok]
 simp[hb,run_sizeOf e i hi]
theorem amQ {t e:TypeId} {i:TypeInfo} {lo:Nat} {x rx v:Value} {l h mx l' h' mx':Option Value} {H':aI} (hu:P.underlying t=some (.slice e)) (hi:P.info? e=some i)
  (hs:E6 i.size x l h mx H=some (v,H')) (hx:RV m x rx) (hl:RO m l l') (hh:RO m h h') (hm:RO m mx mx') (hR:Rel m L0 H w) (hf:∀b,H.length≤b→b<H'.length→m b=none) :
  cS P (do pure (.value (←Instr.sliceAt t rx l' h' mx'))) L0 lo m H w v H':=by
 unfold E6 at hs
 split at hs
 ·rename_i n c
  split at hs
  ·rename_i h0
   obtain⟨rfl,rfl⟩:=h0
   cases hx
   split at hs
   ·cases hs
   ·rename_i M hM
    split at hs
    ·cases hs
    ·rename_i hb hhb
     split at hs
     ·cases hs
     ·rename_i lb HM
      cases hs
      have key:∃k1 k2 k3,(Instr.sliceBounds true 0 0 l' h' mx').run P w = .ok (k1,k2,k3) w∧k1=0∧k2=0∧k3=0:=by
       rcases rV (P:=P) hM hm with⟨rfl,rfl,e1⟩ | ⟨_,r1,rfl,rfl,q1,e1⟩<;>rcases rV (P:=P) hhb hh with⟨_,rfl,e2⟩ | ⟨_,r2,_,rfl,q2,e2⟩<;>rcases rV (P:=P) HM hl with⟨_,rfl,e3⟩ | ⟨_,r3,_,rfl,q3,e3⟩
       ·cases e1;cases e2;cases e3
        exact⟨0,0,0,rfl,rfl,rfl,rfl⟩
       ·cases e1;cases e2
        exact⟨lb,0,0,by simp[Instr.sliceBounds,e3 0 (aKE _)],by omega,rfl,rfl⟩
       ·cases e1;cases e3
        exact⟨0,hb,0,by simp[Instr.sliceBounds,e2 0 (aKE _)],rfl,by omega,rfl⟩
       ·cases e1
        exact⟨lb,hb,0,by simp[Instr.sliceBounds,e2 0 (aKE _),e3 hb (aKE _)],by omega,by omega,rfl⟩
       ·cases e2
       ·cases e2
       ·cases e3
        exact⟨0,hb,M,by simp[Instr.sliceBounds,e1 0 (aKE _),e2 M (aKE _)],rfl,by omega,by omega⟩
       ·exact⟨lb,hb,M,by simp[Instr.sliceBounds,e1 0 (aKE _),e2 M (aKE _),e3 hb (aKE _)],by omega,by omega,by omega⟩
      obtain⟨k1,k2,k3,hk,rfl,rfl,rfl⟩:=key
      exact cS.value (QO hu hi hk) (by simpa using RV.MS) hR (Trans.refl lo m H w)
  ·cases hs
 ·rename_i b o n c
  cases hx with
  |
   slice _ _ _ _ lc ra rc YD hnc hcr hxp ha =>
   split at hs
   ·rename_i cells es p Zu
    obtain⟨g1,g2,g3,g4⟩:=hR.row b lc cells es p YD Zu
    split at hs
    ·rename_i QB
     subst QB
     split at hs
     ·cases hs
     ·rename_i M hM
      split at hs
      ·cases hs
      ·rename_i hb hhb
       split at hs
       ·cases hs
       ·rename_i lb HM
        have key:∃k3,(Instr.sliceBounds true n rc l' h' mx').run P w = .ok (lb,hb,k3) w∧lb≤hb∧hb≤M∧M≤c∧((mx=none∧k3=rc∧M=c)∨(mx.isSome=true∧k3=M)):=by
         rcases rV (P:=P) hM hm with⟨rfl,rfl,e1⟩ | ⟨_,r1,rfl,rfl,q1,e1⟩<;>rcases rV (P:=P) hhb hh with⟨_,rfl,e2⟩ | ⟨_,r2,_,rfl,q2,e2⟩<;>rcases rV (P:=P) HM hl with⟨_,rfl,e3⟩ | ⟨_,r3,_,rfl,q3,e3⟩
         ·cases e1;cases e2;cases e3
          exact⟨rc,rfl,aK8 _,hnc,aKE _,.inl ⟨rfl,rfl,rfl⟩⟩
         ·cases e1;cases e2
          exact⟨rc,by simp[Instr.sliceBounds,e3 n (aKE _)],q3,hnc,aKE _,.inl ⟨rfl,rfl,rfl⟩⟩
         ·cases e1;cases e3
          exact⟨rc,by simp[Instr.sliceBounds,e2 rc hcr],aK8 _,q2,aKE _,.inl ⟨rfl,rfl,rfl⟩⟩
         ·cases e1
          exact⟨rc,by simp[Instr.sliceBounds,e2 rc hcr,e3 hb (aKE _)],q3,q2,aKE _,.inl ⟨rfl,rfl,rfl⟩⟩
         ·cases e2
         ·cases e2
         ·cases e3
          exact⟨M,by simp[Instr.sliceBounds,e1 rc hcr,e2 M (aKE _)],aK8 _,q2,q1,.inr ⟨rfl,rfl⟩⟩
         ·exact⟨M,by simp[Instr.sliceBounds,e1 rc hcr,e2 M (aKE _),e3 hb (aKE _)],q3,q2,q1,.inr ⟨rfl,rfl⟩⟩
        obtain⟨k3,hk,hlh,hhM,hMc,Pd⟩:=key
        have tA:=QO (a:=some ra) hu hi hk
        have place:k3-lb=0∨((if k3=lb then some ra else (some ra).map (·.add (lb*i.size)))=some (⟨lc.rb,lc.base+(o+lb*i.size),none⟩:Addr)∧lc.base+(o+lb*i.size)+(k3-lb)*lc.gR≤lc.Tu):=by
         by_cases hz:k3-lb=0
         ·exact .inl hz
         ·right
          have hk3:k3≤rc:=by rcases Pd with⟨_,rfl,_⟩ | ⟨_,rfl⟩<;>omega
          rcases ha with ha | ⟨rfl,ha⟩
          ·omega
          ·rw[if_neg (by omega)]
           refine⟨by simp[Addr.add_lit,Nat.add_assoc],?_⟩
           rw[g1] at ha ⊢
           have e1:(k3-lb)*i.size=k3*i.size-lb*i.size:=Nat.sub_mul _ _ _
           have e2:lb*i.size≤k3*i.size:=aK5 _ (by omega)
           have e3:k3*i.size≤rc*i.size:=aK5 _ hk3
           omega
        obtain⟨ra',aBX⟩:∃ra',(if k3=lb then some ra else (some ra).map (·.add (lb*i.size)))=some ra':=by split<;>exact⟨_,rfl⟩
        rw[aBX] at tA
        have ayA:k3-lb=0∨(ra'=⟨lc.rb,lc.base+(o+lb*i.size),none⟩∧lc.base+(o+lb*i.size)+(k3-lb)*lc.gR≤lc.Tu):=by
         rcases place with hp | ⟨hp1,hp2⟩
         ·exact .inl hp
         ·rw[aBX] at hp1
          exact .inr ⟨by injection hp1,hp2⟩
        split at hs
        ·rename_i aDp
         cases hs
         obtain⟨aAP,hMl⟩:=aDp
         rcases Pd with⟨rfl,_⟩ | ⟨_,rfl⟩
         ·cases aAP
         ·have hA:=adG hR (hf H.length (aKE _) (by simp)) YD i.size
          refine cS.value (rv := .slice (some ra') 0 0) (by rw[tA];congr 2<;>omega) ?_ hA.1 (hA.2 lo)
          exact .slice _ 0 0 0 _ _ 0 (cC m _ _) (aKE _) (aKE _) (fun _=>rfl) (.inl rfl)
        ·cases hs
         refine cS.value tA ?_ hR (Trans.refl lo m H w)
         refine .slice b _ _ _ lc _ _ YD (by omega) ?_ ?_ ayA
         ·rcases Pd with⟨_,rfl,rfl⟩ | ⟨_,rfl⟩<;>omega
         ·intro ho
          have:=hxp ho
          rcases Pd with⟨_,rfl,rfl⟩ | ⟨_,rfl⟩<;>omega
    ·cases hs
   ·cases hs
 ·cases hs
end
end Go.PM
namespace Go.PM
section
variable {P:Program} {m:dL} {L0:Nat} {H:aI} {w:World}
theorem XG {t:TypeId} {i:TypeInfo} {lo b o:Nat} {v r rp:Value} {H':aI} (hi:P.info? t=some i) (hp:RV m (.pointer (some ⟨b,o,none⟩)) rp) (hv:RV m v r) (hs:(aV v).length=i.size)
  (hw:H.write lo b o (aV v)=some H') (hR:Rel m L0 H w) (dS:L0≤lo) :
  cS P (do Instr.storeAt t rp r;pure .skip) L0 lo m H w undef H':=by
 cases hp with
 |
  ptr _ _ l hm =>
  obtain⟨w',s1,s2,s3⟩:=GN P hR dS hm hw hv.aV
  refine⟨undef,w',m,.inr ⟨?_,rfl⟩,RV.undef m,s2,s3⟩
  have E7:r.cells.size=i.size:=by rw[fS,←hv.aV.1,hs]
  have h1:(Instr.storeAt t (.pointer (some ⟨l.rb,l.base+o,none⟩)) r).run P w = .ok () w':=by
   show (storeVar t ⟨l.rb,l.base+o,none⟩ r).run P w=_
   unfold storeVar
   simp only[Sem.run_bind,run_sizeOf t i hi,Result.andThen_ok,E7,ne_eq,not_true_eq_false,if_false,gW]
   exact s1
  rw[Sem.run_bind,h1]
  rfl
theorem K5 {pv rv:Value} {k:Nat} (h:wP pv=some k) (hr:RV m pv rv):Builtin.lenOf rv=pure k:=by
 unfold wP at h
 split at h
 ·cases h;cases hr<;>rfl
 ·cases h;cases hr;rfl
 ·cases h
theorem EO (a b:Array Value) (xs:List Value) (h:a.toList=xs) (i:Nat) (hi:i<xs.length):(a++b).getD i undef=xs.getD i undef:=by
 subst h
 have:i<a.size:=by simpa using hi
 simp[Array.getD_eq_getD_getElem?,Array.getElem?_append_left this,aKB]
theorem akO {t u ty:TypeId} {agg:Bool} {size bytes lo k:Nat} {z:List Value} {d:TypeDesc} {x y rx ry v:Value} {new:List Value} {H':aI} (ht:lS P t=some (agg,size,z,bytes)) (hu:P.underlying u=some d) (hd:Ox d=true)
  (hk:wP y=some k) (C6:kY H size k y=some new) (xI:fK lo size bytes x k new H=some (v,H')) (hx:RV m x rx) (hy:RV m y ry) (Zj:size=z.length)
  (hR:Rel m L0 H w) (dS:L0≤lo) (hf:∀b,H.length≤b→b<H'.length→m b=none) :
  cS P (do pure (.value (←Builtin.append_ #[t,u] ty #[rx,ry]))) L0 lo m H w v H':=by
 obtain⟨e,LJ,SS⟩:=lF ht
 obtain⟨i,de,zz,hi,_,KO,rfl,rfl,rfl,rfl⟩:=kM SS
 obtain⟨tG,h1,h2,h3⟩:=Ms C6 hk (aKE _) hR hy
 have hl:=K5 hk hy
 have GJ:1≤i.bytes:=by
  unfold fK at xI
  split at xI
  ·rename_i h;exact h.1
  ·cases xI
 have hnl:new.length=k*i.size:=by
  unfold fK at xI
  split at xI
  ·rename_i h;exact h.2.2.2
  ·cases xI
 obtain⟨rv,w',m',g1,g2,g3,g4⟩:=Mb (P:=P) (s:=Builtin.append_ #[t,u] ty #[rx,ry]) (e:=e) xI hR dS hx h1 hf
  (fun a n c w' M1 EJ vL=>by
   subst M1
   exact S4 LJ hu hd hi hl (h3 w rfl) EJ vL)
  (fun M1 hk0=>by
   subst M1
   subst hk0
   exact Wv LJ hu hd hi hl (h3 w rfl))
  (fun base n c Fe M1 hfo gZ hg hb=>by
   subst M1
   refine⟨grownCap w (n+k) c e,_,grownCap_ge w _ _ _,Tx LJ hu hd hi KO hl hfo (h3 w.drew rfl) hg GJ hb,?_,?_⟩
   ·have Hp:=grownCap_ge w (n+k) c e
    have BZ:tG.length=k*i.size:=by rw[←h1.1,hnl]
    simp only[Array.size_append,List.size_toArray,size_zeroCells,gZ,BZ]
    rw[←fS] at Zj
    rw[←Zj,←aK9,←aK9]
    congr 1
    omega
   ·intro j hj
    exact EO _ _ _ (by simp) j hj)
 exact cS.value g1 g2 g3 g4
section
variable {t u ty e:TypeId} {ku:IntKind} {i:TypeInfo} {zz:Value} {k:Nat}
theorem Kf {k:Nat} (h:k≤140737488355328):IntKind.i64.wrap (k:Int)=(k:Int):=by rw[IntKind.wrap_i64];omega
theorem Qd (ht:P.underlying t=some (.slice e)) (hu:P.underlying u=some (.int ku)) (hi:P.info? e=some i) (KO:i.zero=some zz) (hk:k≤140737488355328) (IV:k*i.bytes≤140737488355328)
  {a:Addr} {n c:Nat} {w':World} (EJ:n+k≤c) (hz:k*i.size=0→Builtin.zeroCells zz.cells k = #[]) (vL:(storeCells (a.add (n*i.size)) (Builtin.zeroCells zz.cells k).toList).run P w = .ok () w') :
  (Builtin.append_ #[t,u] ty #[.slice (some a) n c,.int .i64 k]).run P w = .ok (.slice (some a) (n+k) c) w':=by
 have h0:¬((k:Int)<0):=by omega
 have hb:¬(281474976710656<(k:Int)*(i.bytes:Int)):=by rw[←Int.natCast_mul];omega
 by_cases CL:k*i.size=0
 ·rw[hz CL] at vL
  simp[Builtin.append_,run_underlying ht,run_underlying hu,run_sizeOf e i hi,asInt,asIntOf,Kf hk,typeInfo,hi,h0,hb,EJ,CL,vL]
 ·simp[Builtin.append_,run_underlying ht,run_underlying hu,run_sizeOf e i hi,asInt,asIntOf,Kf hk,typeInfo,hi,h0,hb,EJ,CL,zeroValue,KO,vL]
theorem Te (ht:P.underlying t=some (.slice e)) (hu:P.underlying u=some (.int ku)) (hi:P.info? e=some i) :
  (Builtin.append_ #[t,u] ty #[.slice none 0 0,.int .i64 (0:Nat)]).run P w = .ok (.slice none 0 0) w:=by
 have hw:IntKind.i64.wrap 0=0:=rfl
 simp[Builtin.append_,run_underlying ht,run_underlying hu,run_sizeOf e i hi,asInt,asIntOf,hw,typeInfo,hi]
theorem Qf (ht:P.underlying t=some (.slice e)) (hu:P.underlying u=some (.int ku)) (hi:P.info? e=some i) (KO:i.zero=some zz) (hk:k≤140737488355328) (IV:k*i.bytes≤140737488355328)
  {base:Option Addr} {n c:Nat} {Fe:List Value} (hfo:(Builtin.firstCells i.size n (.slice base n c)).run P w.drew = .ok Fe.toArray w.drew) (hz:k*i.size=0→Builtin.zeroCells zz.cells k = #[])
  (hg:c<n+k) (GJ:1≤i.bytes) (Ow:(n+k)*i.bytes≤140737488355328) :
  (Builtin.append_ #[t,u] ty #[.slice base n c,.int .i64 k]).run P w = .ok (.slice (some ⟨w.heap.size,0,none⟩) (n+k) (grownCap w (n+k) c e))
   (w.drew.alloc (.cells (Fe.toArray++Builtin.zeroCells zz.cells k++Builtin.zeroCells zz.cells (grownCap w (n+k) c e-(n+k))) e)):=by
 have xE:=growslice_fits (bytes:=i.bytes) hg Ow
 have h0:¬((k:Int)<0):=by omega
 have hb:¬(281474976710656<(k:Int)*(i.bytes:Int)):=by rw[←Int.natCast_mul];omega
 have h1:¬(n+k≤c):=by omega
 have h2:¬(281474976710656<Builtin.nextslicecap (n+k) c*i.bytes):=by omega
 have h4:n+k≤140737488355328:=aKF (aLa _ GJ) Ow
 have h3:¬(9223372036854775807<(n:Int)+(k:Int)):=by omega
 by_cases CL:k*i.size=0
 ·have e0:=hz CL
  simp[Builtin.append_,run_underlying ht,run_underlying hu,run_sizeOf e i hi,asInt,asIntOf,Kf hk,typeInfo,hi,h0,hb,h1,h2,h3,e0,zeroValue,KO,Question.forced,hfo,newRow,grownCap]
 ·simp[Builtin.append_,run_underlying ht,run_underlying hu,run_sizeOf e i hi,asInt,asIntOf,Kf hk,typeInfo,hi,h0,hb,h1,h2,h3,CL,zeroValue,KO,Question.forced,hfo,newRow,grownCap]
end
theorem afM {t u ty:TypeId} {agg:Bool} {size bytes lo:Nat} {z:List Value} {ku:IntKind} {n:Int} {x rx v:Value} {H':aI} (ht:lS P t=some (agg,size,z,bytes)) (hu:P.underlying u=some (.int ku))
  (hn:0≤n∧n*bytes≤140737488355328) (xI:fK lo z.length bytes x n.toNat (dF n.toNat z) H=some (v,H')) (hx:RV m x rx) (Zj:size=z.length) (Kq:z.all iQ=true) (Nz:z.all mU=true) (CL:1≤z.length)
  (hR:Rel m L0 H w) (dS:L0≤lo) (hf:∀b,H.length≤b→b<H'.length→m b=none) :
  cS P (do pure (.value (←Builtin.append_ #[t,u] ty #[rx,.int .i64 n]))) L0 lo m H w v H':=by
 obtain⟨e,LJ,SS⟩:=lF ht
 obtain⟨i,de,zz,hi,_,KO,rfl,rfl,rfl,rfl⟩:=kM SS
 obtain⟨k,rfl⟩:=Int.eq_ofNat_of_zero_le hn.1
 simp only[Int.toNat_natCast] at xI
 have GJ:1≤i.bytes:=by
  unfold fK at xI
  split at xI
  ·rename_i h;exact h.1
  ·cases xI
 have IV:k*i.bytes≤140737488355328:=by have:=hn.2;omega
 have hk:k≤140737488355328:=aKF (aLa _ GJ) IV
 have E7:i.size=zz.cells.size:=by rw[Zj,fS]
 have adB:1≤zz.cells.size:=by rw[fS];exact CL
 have pY:(Builtin.zeroCells zz.cells k).toList=dF k (aV zz):=by rw[Jt _ _ adB,gW]
 have aBT:k*i.size=0→Builtin.zeroCells zz.cells k = #[]:=by
  intro h0
  apply Array.ext'
  rw[pY]
  exact aKK (by rw[yX,←Zj];exact h0)
 obtain⟨rv,w',m',g1,g2,g3,g4⟩:=Mb (P:=P) (s:=Builtin.append_ #[t,u] ty #[rx,.int .i64 k]) (e:=e) (tG:=dF k (aV zz)) xI hR dS hx (Az k Nz CL) hf
  (fun a n c w' M1 EJ vL=>by
   subst M1
   exact Qd LJ hu hi KO hk IV EJ aBT (by rw[pY,Zj];exact vL))
  (fun M1 hk0=>by
   subst M1
   subst hk0
   exact Te LJ hu hi)
  (fun base n c Fe M1 hfo gZ hg hb=>by
   subst M1
   refine⟨grownCap w (n+k) c e,_,grownCap_ge w _ _ _,Qf LJ hu hi KO hk IV (by rw[Zj];exact hfo) aBT hg GJ hb,?_,?_⟩
   ·have Hp:=grownCap_ge w (n+k) c e
    simp only[Array.size_append,List.size_toArray,size_zeroCells,gZ,fS]
    rw[←aK9,←aK9]
    congr 1
    omega
   ·intro j hj
    exact EO _ _ _ (by simp[pY]) j hj)
 exact cS.value g1 g2 g3 g4
theorem adM {t ty:TypeId} {ts:List TypeId} {agg:Bool} {size bytes lo b o d c k:Nat} {z new:List Value} {y rx ry:Value} {H':aI} (ht:lS P t=some (agg,size,z,bytes))
  (hk:wP y=some k) (C6:kY H size (aLb k d) y=some new) (hw:H.write lo b o new=some H') (hx:RV m (.slice (some ⟨b,o,none⟩) d c) rx) (hy:RV m y ry)
  (hR:Rel m L0 H w) (dS:L0≤lo) :
  cS P (do pure (.value (←Builtin.copy_ (t::ts).toArray ty #[rx,ry]))) L0 lo m H w (.int .i64 (aLb k d)) H':=by
 obtain⟨e,LJ,SS⟩:=lF ht
 obtain⟨i,de,zz,hi,_,KO,rfl,rfl,rfl,rfl⟩:=kM SS
 obtain⟨tG,h1,h2,h3⟩:=Ms (P:=P) C6 hk (Nat.min_le_left _ _) hR hy
 have hl:=K5 hk hy
 cases hx with
 |
  slice _ _ _ _ l ra rc hm hn hc hxp ha =>
  rcases ha with ha | ⟨rfl,ha⟩
  ·have FD:d=0:=by omega
   subst FD
   have asN:aLb k 0=0:=Nat.min_zero k
   rw[asN] at C6 h3 ⊢
   have pY:new=[]:=by
    have:tG.length=new.length:=h1.1.symm
    unfold kY at C6
    split at C6
    ·obtain⟨_,_,_,_,_,_,hlen⟩:=RJ C6
     exact aKK (by simpa using hlen)
    ·split at C6
     ·cases C6;rfl
     ·cases C6
    ·split at C6
     ·cases C6;simp
     ·cases C6
    ·cases C6
   subst pY
   have hrn:tG=[]:=aKK h1.1.symm
   subst hrn
   have hHH:H'=H:=by
    obtain⟨cs,e',p',q1,q2,q3,q4,rfl⟩:=DY hw
    apply List.ext_getElem?
    intro j
    by_cases hj:b=j
    ·subst hj
     rw[List.getElem?_set_self (aKD.1 q1).1,q1]
     simp[kL]
    ·rw[aK3 hj]
   rw[hHH]
   refine cS.value (rv := .int .i64 0) (w':=w) ?_ (.int _ _) hR (Trans.refl lo m _ w)
   have hf0:=h3 w rfl
   simp[Builtin.copy_,run_underlying LJ,hl,run_sizeOf e i hi,goInt,hf0,storeCells]
  ·obtain⟨w',s1,s2,s3⟩:=GN P hR dS hm hw h1
   refine cS.value (rv := .int .i64 (aLb k d)) ?_ (.int _ _) s2 s3
   have hf0:=h3 w rfl
   unfold Builtin.copy_
   simp only[List.getElem?_toArray,List.getElem?_cons_zero,List.getElem?_cons_succ,Sem.run_bind,run_underlying LJ,Result.andThen_ok,hl,Sem.run_pure,run_sizeOf e i hi]
   rw[hf0]
   simp only[Result.andThen_ok,s1,goInt]
theorem XY {t ty e:TypeId} {ts:List TypeId} {i:TypeInfo} {zz:Value} {lo b o n c:Nat} {rx:Value} {H':aI} (LJ:P.underlying t=some (.slice e)) (hi:P.info? e=some i) (KO:i.zero=some zz)
  (hn0:n≠0) (hw:H.write lo b o (dF n (aV zz))=some H') (hx:RV m (.slice (some ⟨b,o,none⟩) n c) rx) (Nz:(aV zz).all mU=true) (CL:1≤(aV zz).length) (hR:Rel m L0 H w) (dS:L0≤lo) :
  cS P (do pure (.value (←Builtin.clear_ (t::ts).toArray ty #[rx]))) L0 lo m H w undef H':=by
 cases hx with
 |
  slice _ _ _ _ l ra rc hm hn hc hxp ha =>
  rcases ha with ha | ⟨rfl,ha⟩
  ·omega
  ·obtain⟨w',s1,s2,s3⟩:=GN P hR dS hm hw (Az n Nz CL)
   have pY:(Builtin.zeroCells zz.cells n).toList=dF n (aV zz):=by rw[Jt _ _ (by rw[fS];exact CL),gW]
   refine cS.value (rv:=undef) ?_ (RV.undef m) s2 s3
   rw[←pY] at s1
   obtain⟨n',rfl⟩:∃n',n=n'+1:=⟨n-1,by omega⟩
   simp[Builtin.clear_,run_underlying LJ,zeroValue,typeInfo,hi,KO,s1,undef]
theorem Mm {t ty e:TypeId} {ts:List TypeId} {lo c:Nat} {a:Option Addr} {rx:Value} (LJ:P.underlying t=some (.slice e)) (hx:RV m (.slice a 0 c) rx) (hR:Rel m L0 H w) :
  cS P (do pure (.value (←Builtin.clear_ (t::ts).toArray ty #[rx]))) L0 lo m H w undef H:=by
 refine cS.value (rv:=undef) (w':=w) ?_ (RV.undef m) hR (Trans.refl lo m _ w)
 cases hx<;>simp[Builtin.clear_,run_underlying LJ,undef]
end
end Go.PM
namespace Go.PM
section
variable {P:Program} {m:dL} {L0:Nat} {H:aI} {w:World}
theorem Gg {po:qK} {ρ:Env} {v:Value} {H':aI} (h:(kH po ρ).map (Out.val · H)=some (.val v H')):kH po ρ=some v∧H'=H:=by
 cases hp:kH po ρ with
 | none=>rw[hp] at h;cases h
 | some u=>rw[hp] at h;cases h;exact⟨rfl,rfl⟩
def xV:qK→Bool
 | .load .. | .sub .. | .b2s _ | .new _ | .box _ | .make .. | .lit .. | .call .. | .store .. | .app .. | .appz .. | .copy .. | .clear .. | .callv .. => false
 | _=>true
theorem Bi {lo:Nat} {po:qK} {ρ:Env} (h:xV po=true):pop lo po ρ H=(kH po ρ).map (.val · H):=by
 cases po<;>first | rfl | cases h
theorem VN {pv rv:Value} {k:Nat} (size:Nat) (h:wP pv=some k) (hr:RV m pv rv):(Builtin.firstCells size 0 rv).run P w = .ok #[] w:=by
 unfold wP at h
 split at h
 ·cases hr
  ·rfl
  ·simp only[Builtin.firstCells,Nat.zero_mul]
   rfl
 ·cases hr
  simp[Builtin.firstCells]
 ·cases h
theorem aaV {o:Oper} {po:qK} {ρ:Env} {a:Act} {lo:Nat} {v:Value} {H':aI} (hp:tF P o.op=some po) (hv:pop lo po ρ H=some (.val v H')) (hr:∀x∈o.op.operands,RV m (ev ρ x) (a.eval x))
  (hR:Rel m L0 H w) (dS:L0≤lo) (hf:∀b,H.length≤b→b<H'.length→m b=none):cS P (execOp a.eval o) L0 lo m H w v H':=by
 by_cases kT:xV po=true
 ·rw[Bi kT] at hv
  obtain⟨h1,rfl⟩:=Gg hv
  obtain⟨rv,h2,h3⟩:=aoB hp h1 hr
  exact⟨rv,w,m,.inl (h3 w),h2,hR,Trans.refl lo m _ w⟩
 obtain⟨dst,op,type,pos,after,guard⟩:=o
 unfold tF at hp
 simp only at hp hr ⊢
 split at hp
 case isFalse=>cases hp
 cases op with
 | move x=>cases hp;exact absurd rfl kT
 | assign x=>cases hp;exact absurd rfl kT
 | pick c x y=>cases hp;exact absurd rfl kT
 |
  binOp op t x y yt =>
  unfold DT at hp
  simp only at hp
  split at hp
  ·cases hp;exact absurd rfl kT
  ·cases hp;exact absurd rfl kT
  ·split at hp<;>first | (cases hp;done) | (cases hp;exact absurd rfl kT)
  ·split at hp<;>first | (cases hp;done) | (split at hp<;>first | (cases hp;done) | (cases hp;exact absurd rfl kT))
  ·split at hp<;>first | (cases hp;done) | (cases hp;exact absurd rfl kT)
  ·cases hp
 | unOp op t x=>cases hp;exact absurd rfl kT
 | extract x i=>cases hp;exact absurd rfl kT
 |
  convert s d x =>
  have hx:=hr x (by simp[Op.operands])
  simp only at hp
  split at hp
  ·cases hp;exact absurd rfl kT
  ·cases hp;exact absurd rfl kT
  ·rename_i e hs hd
   split at hp
   ·rename_i he
    cases hp
    simp only[pop] at hv
    split at hv
    ·rename_i n c RH
     cases hv
     rw[RH] at hx
     show cS P (do pure (.value (←convert s d (a.eval x)))) L0 lo m H w _ H
     generalize a.eval x=rx at hx ⊢
     cases hx
     refine cS.value (rv := .string ByteArray.empty) ?_ (.str _) hR (Trans.refl lo m _ w)
     simp[convert,run_underlying hs,run_underlying hd,run_underlying he,Conv.bytesToString]
    ·rename_i b o n c RH
     split at hv
     ·rename_i cs OR
      cases hb:xT cs with
      | none=>rw[hb] at hv;cases hv
      |
       some bs =>
       rw[hb] at hv
       cases hv
       rw[RH] at hx
       exact alQ hs hd he OR hb hR hx
     ·cases hv
    ·cases hv
   ·cases hp
  ·cases hp
 |
  field t x i =>
  simp only at hp
  split at hp
  ·split at hp
   ·rename_i f hf'
    cases ht:oN P f.type with
    | none=>rw[ht] at hp;cases hp
    | some q=>rw[ht] at hp;cases hp;exact absurd rfl kT
   ·cases hp
  ·cases hp
 |
  build t parts =>
  simp only at hp
  split at hp
  ·split at hp
   ·split at hp
    ·cases hp;exact absurd rfl kT
    ·cases hp
   ·cases hp
  ·cases hp
 | nilCheck x=>cases hp;exact absurd rfl kT
 |
  fieldAddr t x i =>
  simp only at hp
  split at hp
  ·split at hp
   ·split at hp
    ·split at hp
     ·cases hp
     ·cases hp;exact absurd rfl kT
    ·cases hp
   ·cases hp
  ·cases hp
 |
  indexAddr t x i =>
  simp only at hp
  cases ht:lS P t with
  | none=>rw[ht] at hp;cases hp
  | some q=>rw[ht] at hp;cases hp;exact absurd rfl kT
 |
  index t x i =>
  simp only at hp
  split at hp
  ·cases hp;exact absurd rfl kT
  ·cases hp
 |
  slice t x fW hi mx =>
  have hx:=hr x (by simp[Op.operands])
  simp only at hp
  split at hp
  ·split at hp
   ·cases hp;exact absurd rfl kT
   ·cases hp
  ·rename_i e hu
   cases ht:oN P e with
   | none=>rw[ht] at hp;cases hp
   |
    some q =>
    obtain⟨agg,size,z,nb⟩:=q
    rw[ht] at hp
    cases hp
    obtain⟨i,d,zz,qQ,_,_,rfl,rfl,rfl,rfl⟩:=kM ht
    simp only[pop] at hv
    cases hs:E6 i.size (ev ρ x) (fW.map (ev ρ)) (hi.map (ev ρ)) (mx.map (ev ρ)) H with
    | none=>rw[hs] at hv;cases hv
    |
     some q =>
     obtain⟨u,H1⟩:=q
     rw[hs] at hv
     cases hv
     exact amQ hu qQ hs hx (RO.map fun y hy=>hr y (by simp[Op.operands,hy])) (RO.map fun y hy=>hr y (by simp[Op.operands,hy])) (RO.map fun y hy=>hr y (by simp[Op.operands,hy])) hR hf
  ·cases hp
 |
  makeFunc fn first gB =>
  cases fn with
  |
   func f =>
   simp only at hp
   split at hp
   ·cases hp;exact absurd rfl kT
   ·cases hp
  | _=>cases hp
 | makeInterface t x=>cases hp;exact absurd rfl kT
 | panic x=>cases hp;exact absurd rfl kT
 |
  load t p =>
  have hx:=hr p (by simp[Op.operands])
  simp only at hp
  cases ht:oN P t with
  | none=>rw[ht] at hp;cases hp
  |
   some q =>
   obtain⟨agg,size,z,nb⟩:=q
   rw[ht] at hp
   cases hp
   simp only[pop] at hv
   cases hl:rA agg size (ev ρ p) H with
   | none=>rw[hl] at hv;cases hv
   |
    some u =>
    rw[hl] at hv
    cases hv
    obtain⟨rv,h1,h2⟩:=RC ht hl hR hx
    exact cS.value h2 h1 hR (Trans.refl lo m _ w)
 |
  store t p x =>
  have hpp:=hr p (by simp[Op.operands])
  have hx:=hr x (by simp[Op.operands])
  simp only at hp
  cases ht:P.info? t with
  | none=>rw[ht] at hp;cases hp
  |
   some i =>
   rw[ht] at hp
   cases hp
   simp only[pop] at hv
   split at hv
   ·rename_i b o hpo
    split at hv
    ·rename_i hs
     cases hw:H.write lo b o (aV (ev ρ x)) with
     | none=>rw[hw] at hv;cases hv
     |
      some H1 =>
      rw[hw] at hv
      cases hv
      rw[hpo] at hpp
      exact XG ht hpp hx hs hw hR dS
    ·cases hv
   ·cases hv
 |
  alloc t =>
  simp only at hp
  split at hp
  ·rename_i agg size z nb ht
   split at hp
   ·rename_i hz
    cases hp
    simp only[aLc] at hz
    cases hv
    exact alZ ht hz.1 hz.2 hR (hf _ (aKE _) (by simp))
   ·cases hp
  ·cases hp
 |
  box t x =>
  have hx:=hr x (by simp[Op.operands])
  cases hp
  simp only[pop] at hv
  split at hv
  ·rename_i hs
   cases hv
   exact akF hx hs hR (hf _ (aKE _) (by simp))
  ·cases hv
 |
  makeSlice t l c =>
  have hl:=hr l (by simp[Op.operands])
  have hc:=hr c (by simp[Op.operands])
  simp only at hp
  split at hp
  ·rename_i agg size z nb ht
   split at hp
   ·rename_i hz
    cases hp
    simp only[aLc,beq_iff_eq,decide_eq_true_eq] at hz
    obtain⟨⟨⟨z1,z2⟩,z3⟩,z4⟩:=hz
    simp only[pop] at hv
    split at hv
    ·rename_i l' c' Gd hc'
     split at hv
     ·rename_i hb
      cases hv
      rw[Gd] at hl
      rw[hc'] at hc
      show cS P (do pure (.value (←Instr.makeSlice t (a.eval l) (a.eval c)))) L0 lo m H w _ _
      generalize a.eval l=rl at hl ⊢
      generalize a.eval c=rc at hc ⊢
      cases hl
      cases hc
      exact adI ht z1 z2 z3 z4 hb.1 hb.2.1 hb.2.2.1 hb.2.2.2 hR (hf _ (aKE _) (by simp))
     ·cases hv
    ·cases hv
   ·cases hp
  ·cases hp
 |
  buildSlice t n parts =>
  simp only at hp
  split at hp
  ·rename_i agg size z nb ht
   split at hp
   ·rename_i hz
    cases hp
    simp only[aLc,beq_iff_eq,decide_eq_true_eq] at hz
    obtain⟨⟨⟨⟨z1,z2⟩,z3⟩,z4⟩,z5⟩:=hz
    simp only[pop] at hv
    split at hv
    ·rename_i cs OR
     split at hv
     ·rename_i EM
      cases hv
      have:=aiS (P:=P) (w:=w) (lo:=lo) (a:=a) ht z1 z2 z3 z4 z5 OR EM (fun p hpm=>hr p.2 (by simp only[Op.operands];simp;exact⟨p.1,by simpa using hpm⟩)) hR (hf _ (aKE _) (by simp))
      rw[Array.toArray_toList] at this
      exact this
     ·cases hv
    ·cases hv
   ·cases hp
  ·cases hp
 |
  call c =>
  obtain⟨callee,args,ts⟩:=c
  cases callee with
  |
   builtin b =>
   have Xa:∀x∈args,RV m (ev ρ x) (a.eval x):=fun x hx=>hr x (by simpa[Op.operands,Call.operands] using hx)
   simp only at hp
   unfold rU at hp
   split at hp
   ·split at hp<;>first | (cases hp;done) | (cases hp;exact absurd rfl kT)
   ·split at hp<;>first | (cases hp;done) | (cases hp;exact absurd rfl kT)
   ·cases hp;exact absurd rfl kT
   ·cases hp;exact absurd rfl kT
   ·rename_i x y t u FT Bp hts _
    have ea:args = #[x,y]:=aKU.1 (by simpa using Bp)
    subst ea
    have hx:=Xa x (by simp)
    have hy:=Xa y (by simp)
    have aEN:∃tr,ts=(t::u::tr).toArray:=⟨FT,aKU.1 (by simpa using hts)⟩
    obtain⟨tr,rfl⟩:=aEN
    show cS P (do pure (.value (←Builtin.append_ (t::u::tr).toArray type ((#[x,y]:Array Operand).map a.eval)))) L0 lo m H w v H'
    rw[NJ]
    have aDs:∀r1 r2,Builtin.append_ (t::u::tr).toArray type #[r1,r2]=Builtin.append_ #[t,u] type #[r1,r2]:=fun r1 r2=>by simp[Builtin.append_]
    rw[aDs]
    split at hp
    ·rename_i agg size zero bytes ku ht hu
     split at hp
     ·rename_i hz
      cases hp
      simp only[aLc,beq_iff_eq,decide_eq_true_eq] at hz
      obtain⟨⟨⟨z1,z2⟩,z3⟩,z4⟩:=hz
      simp only[pop] at hv
      split at hv
      ·rename_i n hn
       split at hv
       ·rename_i hb
        cases xI:fK lo zero.length bytes (ev ρ x) n.toNat (dF n.toNat zero) H with
        | none=>rw[xI] at hv;cases hv
        |
         some q =>
         obtain⟨u',H1⟩:=q
         rw[xI] at hv
         cases hv
         rw[hn] at hy
         generalize a.eval y=ry at hy ⊢
         cases hy
         exact afM ht hu hb xI hx z4 z1 z2 z3 hR dS hf
       ·cases hv
      ·cases hv
     ·cases hp
    ·rename_i agg size zero bytes d _ ht hu
     split at hp
     ·rename_i hd
      split at hp
      ·rename_i Zj
       cases hp
       simp only[pop] at hv
       split at hv
       ·rename_i k hk
        split at hv
        ·rename_i new pY
         cases xI:fK lo size bytes (ev ρ x) k new H with
         | none=>rw[xI] at hv;cases hv
         |
          some q =>
          obtain⟨u',H1⟩:=q
          rw[xI] at hv
          cases hv
          exact akO ht hu hd hk pY xI hx hy (by simpa using Zj) hR dS hf
        ·cases hv
       ·cases hv
      ·cases hp
     ·cases hp
    ·cases hp
   ·rename_i x y t FT Bp hts _
    have ea:args = #[x,y]:=aKU.1 (by simpa using Bp)
    have et:ts=(t::FT).toArray:=aKU.1 (by simpa using hts)
    subst ea;subst et
    have hx:=Xa x (by simp)
    have hy:=Xa y (by simp)
    show cS P (do pure (.value (←Builtin.copy_ (t::FT).toArray type ((#[x,y]:Array Operand).map a.eval)))) L0 lo m H w v H'
    rw[NJ]
    split at hp
    ·rename_i agg size zero bytes ht
     cases hp
     simp only[pop] at hv
     split at hv
     ·rename_i n c k RH hk
      cases hv
      rw[RH] at hx
      generalize a.eval x=rx at hx ⊢
      cases hx
      obtain⟨e,LJ,SS⟩:=lF ht
      obtain⟨i,de,zz,hi,_,KO,_,_,_,_⟩:=kM SS
      refine cS.value (rv := .int .i64 0) (w':=w) ?_ (.int _ _) hR (Trans.refl lo m _ w)
      have hl:=K5 hk hy
      have hf0:=VN (P:=P) (w:=w) i.size hk hy
      simp[Builtin.copy_,run_underlying LJ,hl,run_sizeOf e i hi,goInt,hf0]
     ·rename_i b o d c k RH hk
      split at hv
      ·rename_i new pY
       cases hw:H.write lo b o new with
       | none=>rw[hw] at hv;cases hv
       |
        some H1 =>
        rw[hw] at hv
        cases hv
        rw[RH] at hx
        exact adM ht hk pY hw hx hy hR dS
      ·cases hv
     ·cases hv
    ·cases hp
   ·rename_i x t FT Bp hts _
    have ea:args = #[x]:=aKU.1 (by simpa using Bp)
    have et:ts=(t::FT).toArray:=aKU.1 (by simpa using hts)
    subst ea;subst et
    have hx:=Xa x (by simp)
    show cS P (do pure (.value (←Builtin.clear_ (t::FT).toArray type ((#[x]:Array Operand).map a.eval)))) L0 lo m H w v H'
    rw[TA]
    split at hp
    ·rename_i agg size zero bytes ht
     split at hp
     ·rename_i hz
      cases hp
      simp only[aLc,beq_iff_eq,decide_eq_true_eq] at hz
      obtain⟨⟨⟨z1,z2⟩,z3⟩,z4⟩:=hz
      obtain⟨e,LJ,SS⟩:=lF ht
      obtain⟨i,de,zz,hi,_,KO,rfl,rfl,rfl,rfl⟩:=kM SS
      simp only[pop] at hv
      split at hv
      ·rename_i n c RH
       cases hv
       rw[RH] at hx
       generalize a.eval x=rx at hx ⊢
       cases hx
       exact Mm LJ .MS hR
      ·rename_i b o n c RH
       rw[RH] at hx
       split at hv
       ·rename_i hn0
        cases hv
        subst hn0
        exact Mm LJ hx hR
       ·rename_i hn0
        cases hw:H.write lo b o (dF n (aV zz)) with
        | none=>rw[hw] at hv;cases hv
        |
         some H1 =>
         rw[hw] at hv
         cases hv
         exact XY LJ hi KO hn0 hw hx z2 z4 hR dS
      ·cases hv
     ·cases hp
    ·cases hp
   ·cases hp
  |
   value f =>
   cases f with
   | func g=>cases hp;cases hv
   |
    tmp t =>
    cases hp
    simp only[pop] at hv
    split at hv<;>cases hv
   | const c=>cases hp
   | global g=>cases hp
  | invoke r s=>cases hp
 | _=>cases hp
def Oa (P:Program) (f:Nat):Prop:=∃fn,P.funcs[f]? = some fn∧(fn.name == "runtime.NumGoroutine")=false∧fn.body.isNone=false
theorem JU {f:Nat} {args:Array Value} (h:Oa P f):(callFunc f args).run P w = .ok (.enter f args) w:=by
 obtain⟨fn,h1,h2,h3⟩:=h
 unfold callFunc
 rw[Sem.run_bind,run_program,Result.andThen_ok,h1]
 simp[h2,h3]
theorem map_none {α β:Type} {o:Option α} {f:α→β} {x:β} (h:o.map f=some x) (hf:∀y,f y≠x):False:=by
 cases o with
 | none=>cases h
 | some y=>injection h with h;exact hf y h
theorem adJ {op:Op} {g:Nat} {as:List Operand} (h:tF P op=some (.call g as)):∃args ts,op = .call ⟨.value (.func g),args,ts⟩∧as=args.toList:=by
 unfold tF at h
 split at h
 case isFalse=>cases h
 cases op with
 |
  call c =>
  obtain⟨callee,args,ts⟩:=c
  cases callee with
  |
   builtin b =>
   exfalso
   simp only[rU] at h
   repeat' (split at h)
   all_goals cases h
  |
   value f =>
   cases f with
   | func g'=>cases h;exact⟨args,ts,rfl,rfl⟩
   | _=>cases h
  | invoke r s=>cases h
 |
  _ =>
  exfalso
  dsimp only at h
  try unfold DT at h
  repeat' (split at h)
  all_goals first
   | contradiction
   | (cases h;done)
   | exact map_none h (by intro y h;cases h)
theorem Xn {op:Op} {fv:Operand} {as:List Operand} (h:tF P op=some (.callv fv as)):∃args ts,op = .call ⟨.value fv,args,ts⟩∧as=args.toList:=by
 unfold tF at h
 split at h
 case isFalse=>cases h
 cases op with
 |
  call c =>
  obtain⟨callee,args,ts⟩:=c
  cases callee with
  |
   builtin b =>
   exfalso
   simp only[rU] at h
   repeat' (split at h)
   all_goals cases h
  |
   value f =>
   cases f with
   | tmp g'=>cases h;exact⟨args,ts,rfl,rfl⟩
   | _=>cases h
  | invoke r s=>cases h
 |
  _ =>
  exfalso
  dsimp only at h
  try unfold DT at h
  repeat' (split at h)
  all_goals first
   | contradiction
   | (cases h;done)
   | exact map_none h (by intro y h;cases h)
theorem wY {po:qK} {ρ:Env} {lo f:Nat} {args:List Value} (hv:pop lo po ρ H=some (.call f args)):(∃g as,po = .call g as)∨(∃g as,po = .callv g as):=by
 by_cases kT:xV po=true
 ·rw[Bi kT] at hv
  cases hpp:kH po ρ with
  | none=>rw[hpp] at hv;cases hv
  | some u=>rw[hpp] at hv;cases hv
 cases po<;>first | exact absurd rfl kT | exact .inl ⟨_,_,rfl⟩ | exact .inr ⟨_,_,rfl⟩ | skip
 all_goals
  exfalso
  simp only[pop] at hv
  repeat' (split at hv)
  all_goals first
   | (cases hv;done)
   | (revert hv;generalize aI.write _ _ _ _ _=q;cases q<;>intro hv<;>cases hv)
   | (revert hv;generalize rA _ _ _ _=q;cases q<;>intro hv<;>cases hv)
   | (revert hv;generalize E6 _ _ _ _ _ _=q;cases q<;>intro hv<;>cases hv)
   | (revert hv;generalize fK _ _ _ _ _ _ _=q;cases q<;>intro hv<;>cases hv)
   | (revert hv;generalize xT _=q;cases q<;>intro hv<;>cases hv)
theorem afF {o:Oper} {po:qK} {ρ:Env} {a:Act} {lo f:Nat} {args:List Value} (hp:tF P o.op=some po) (hv:pop lo po ρ H=some (.call f args)) (hr:∀x∈o.op.operands,RV m (ev ρ x) (a.eval x)) :
  ∃iV,RL m args iV∧(Oa P f→∀w,(execOp a.eval o).run P w = .ok (.enter f iV.toArray) w):=by
 have key:=wY hv
 obtain⟨dst,op,type,pos,after,guard⟩:=o
 simp only at hp hr ⊢
 rcases key with⟨g,as,rfl⟩ | ⟨g,as,rfl⟩
 ·obtain⟨EV,ts,rfl,rfl⟩:=adJ hp
  cases hv
  refine⟨EV.toList.map a.eval,RL.map fun x hx=>hr x (by simp[Op.operands,Call.operands];right;simpa using hx),fun hc w => ?_⟩
  have e1:(EV.toList.map a.eval).toArray=EV.map a.eval:=aKU.1 (by rw[Array.toList_map])
  rw[e1]
  have e2:execOp a.eval ⟨dst,.call ⟨.value (.func f),EV,ts⟩,type,pos,after,guard⟩=callFunc f ((#[]++EV.map a.eval) ++ #[]):=rfl
  rw[e2,JU hc]
  simp
 ·obtain⟨EV,ts,rfl,rfl⟩:=Xn hp
  have hg:=hr g (by simp[Op.operands,Call.operands])
  simp only[pop] at hv
  split at hv
  ·rename_i f' first gB hfv
   cases hv
   rw[hfv] at hg
   generalize hrg:a.eval g=rg at hg
   cases hg with
   |
    func fn f1 g1 c1 d1 h1 h2 h3 h4 =>
    refine⟨g1.toList++EV.toList.map a.eval++d1.toList,((RL.arr h1 h2).append (RL.map fun x hx=>hr x (by simp[Op.operands,Call.operands];right;simpa using hx))).append (RL.arr h3 h4),fun hc w => ?_⟩
    have e1:(g1.toList++EV.toList.map a.eval++d1.toList).toArray=(g1++EV.map a.eval)++d1:=by
     apply Array.ext'
     simp
    rw[e1]
    have e2:(execOp a.eval ⟨dst,.call ⟨.value g,EV,ts⟩,type,pos,after,guard⟩)=(do let d ←Deferred.ofValue (a.eval g) (EV.map a.eval);invoke d.target d.args):=rfl
    rw[e2,hrg]
    show (callFunc f ((g1++EV.map a.eval)++d1)).run P w=_
    exact JU hc
  ·cases hv
end
end Go.PM
namespace Go.PM
section
variable {H:aI}
theorem aeU {lo:Nat} {H':aI} (h:Ext H.length H H'):Ext lo H H' :=
 ⟨h.len,fun b _ hl=>h.low b hl hl,h.liv⟩
theorem L5 {lo size bytes add:Nat} {x v:Value} {new:List Value} {H':aI} (h:fK lo size bytes x add new H=some (v,H')):Ext lo H H':=by
 unfold fK at h
 split at h
 case isFalse=>cases h
 split at h
 ·split at h
  ·split at h
   ·cases h;exact Ext.refl _ _
   ·split at h
    ·cases h;exact sX _ _ _
    ·cases h
  ·cases h
 ·split at h
  ·split at h
   ·split at h
    ·split at h
     ·cases h;exact Ext.refl _ _
     ·cases hw:aI.write H lo _ _ new with
      | none=>rw[hw] at h;cases h
      | some H1=>rw[hw] at h;cases h;exact GO hw
    ·split at h
     ·split at h
      ·split at h
       ·rename_i HM
        cases h
        exact abU HM
       ·cases h
      ·cases h;exact sX _ _ _
     ·cases h
   ·cases h
  ·cases h
 ·cases h
theorem alO {lo size:Nat} {x v:Value} {l h' mx:Option Value} {H':aI} (h:E6 size x l h' mx H=some (v,H')):Ext lo H H':=by
 unfold E6 at h
 repeat' (split at h)
 all_goals first
  | (cases h;done)
  | (cases h;exact Ext.refl _ _)
  | (cases h;exact sX _ _ _)
theorem Y7 {lo:Nat} {po:qK} {ρ:Env} {v:Value} {H':aI} (h:pop lo po ρ H=some (.val v H')):Ext lo H H':=by
 by_cases kT:xV po=true
 ·rw[Bi kT] at h
  obtain⟨_,rfl⟩:=Gg h
  exact Ext.refl _ _
 cases po<;>first | exact absurd rfl kT | skip
 case load agg size p =>
  simp only[pop] at h
  cases hl:rA agg size (ev ρ p) H with
  | none=>rw[hl] at h;cases h
  | some u=>rw[hl] at h;cases h;exact Ext.refl _ _
 case sub size x l hh mx =>
  simp only[pop] at h
  cases hs:E6 size (ev ρ x) (l.map (ev ρ)) (hh.map (ev ρ)) (mx.map (ev ρ)) H with
  | none=>rw[hs] at h;cases h
  |
   some q =>
   obtain⟨u,H1⟩:=q
   rw[hs] at h;cases h;exact alO hs
 case b2s x =>
  simp only[pop] at h
  split at h
  ·cases h;exact Ext.refl _ _
  ·split at h
   ·rename_i cs _
    cases hb:xT cs with
    | none=>rw[hb] at h;cases h
    | some bs=>rw[hb] at h;cases h;exact Ext.refl _ _
   ·cases h
  ·cases h
 case new z=>cases h;exact sX _ _ _
 case box x =>
  simp only[pop] at h
  split at h
  ·cases h;exact sX _ _ _
  ·cases h
 case make z b l c =>
  simp only[pop] at h
  split at h
  ·split at h
   ·cases h;exact sX _ _ _
   ·cases h
  ·cases h
 case lit z n parts =>
  simp only[pop] at h
  split at h
  ·split at h
   ·cases h;exact sX _ _ _
   ·cases h
  ·cases h
 case call f args=>cases h
 case callv f args =>
  simp only[pop] at h
  split at h<;>cases h
 case store size p x =>
  simp only[pop] at h
  split at h
  ·rename_i b o _
   split at h
   ·cases hw:H.write lo b o (aV (ev ρ x)) with
    | none=>rw[hw] at h;cases h
    | some H1=>rw[hw] at h;cases h;exact GO hw
   ·cases h
  ·cases h
 case app size bytes x y =>
  simp only[pop] at h
  split at h
  ·rename_i n _
   split at h
   ·rename_i new _
    cases ha:fK lo size bytes (ev ρ x) n new H with
    | none=>rw[ha] at h;cases h
    |
     some q =>
     obtain⟨u,H1⟩:=q
     rw[ha] at h;cases h;exact L5 ha
   ·cases h
  ·cases h
 case appz z bytes x n =>
  simp only[pop] at h
  split at h
  ·rename_i k _
   split at h
   ·cases ha:fK lo z.length bytes (ev ρ x) k.toNat (dF k.toNat z) H with
    | none=>rw[ha] at h;cases h
    |
     some q =>
     obtain⟨u,H1⟩:=q
     rw[ha] at h;cases h;exact L5 ha
   ·cases h
  ·cases h
 case copy size x y =>
  simp only[pop] at h
  split at h
  ·cases h;exact Ext.refl _ _
  ·rename_i b o d _ s _ _
   split at h
   ·rename_i new _
    cases hw:H.write lo b o new with
    | none=>rw[hw] at h;cases h
    | some H1=>rw[hw] at h;cases h;exact GO hw
   ·cases h
  ·cases h
 case clear z x =>
  simp only[pop] at h
  split at h
  ·cases h;exact Ext.refl _ _
  ·rename_i b o n _ _
   split at h
   ·cases h;exact Ext.refl _ _
   ·cases hw:H.write lo b o (dF n z) with
    | none=>rw[hw] at h;cases h
    | some H1=>rw[hw] at h;cases h;exact GO hw
  ·cases h
def vC (call:iG):Prop:=∀f args lo H v H',call f args lo H=some (v,H')→Ext lo H H'
theorem NW {call:iG} (hc:vC call) {lo:Nat} {i:PI} {ρ:Env} {v:Value} {H':aI} (h:BX call lo i ρ H=some (v,H')):Ext lo H H':=by
 unfold BX at h
 split at h
 ·cases h
 ·cases h;exact Ext.refl _ _
 ·split at h
  ·split at h
   ·rename_i hp
    cases h
    exact Y7 hp
   ·rename_i f args _
    have:=hc _ _ _ _ _ _ h
    split at this
    ·exact aeU this
    ·exact this
   ·cases h
  ·cases h
theorem A5 {call:iG} {lo:Nat} {i:PI} {ρ aQ:Env} {H':aI} (h:BH call lo i ρ H=some (aQ,H')):∃v,BX call lo i ρ H=some (v,H')∧aQ=put ρ i.dst v:=by
 unfold BH at h
 split at h
 ·rename_i v H1 hv
  cases h
  exact⟨v,hv,rfl⟩
 ·cases h
theorem Kx {call:iG} (hc:vC call) {lo:Nat} {i:PI} {ρ aQ:Env} {H':aI} (h:BH call lo i ρ H=some (aQ,H')):Ext lo H H':=by
 obtain⟨v,h1,_⟩:=A5 h
 exact NW hc h1
theorem OJ {call:iG} (hc:vC call) {lo:Nat}:∀(is:List PI) {ρ aQ:Env} {H H':aI},jB call lo is ρ H=some (aQ,H')→Ext lo H H'
 | [],ρ,aQ,H,H',h=>by cases h;exact Ext.refl _ _
 |
  i::is,ρ,aQ,H,H',h=>by
  rw[jB] at h
  split at h
  ·rename_i h1
   exact(Kx hc h1).trans (OJ hc is h)
  ·cases h
theorem KJ {lo:Nat} {body:Env→aI→Option (Ex×Env×aI)} (hb:∀ρ H x aQ H',body ρ H=some (x,aQ,H')→Ext lo H H'):∀(n:Nat) {ρ aQ:Env} {H H':aI} {x:Ex},BN body n ρ H=some (x,aQ,H')→Ext lo H H'
 | 0,_,_,_,_,_,h=>by cases h
 |
  n+1,ρ,aQ,H,H',x,h=>by
  rw[BN] at h
  split at h
  ·rename_i h1
   exact(hb _ _ _ _ _ h1).trans (KJ hb n h)
  ·exact hb _ _ _ _ _ h
theorem lH {call:iG} (hc:vC call) {lo n:Nat}:∀(c:aE) {ρ aQ:Env} {H H':aI} {x:Ex},dV call lo n c ρ H=some (x,aQ,H')→Ext lo H H'
 | .skip,_,_,_,_,_,h=>by cases h;exact Ext.refl _ _
 |
  .cT ops,ρ,aQ,H,H',x,h=>by
  rw[dV] at h
  cases hp:jB call lo ops ρ H with
  | none=>rw[hp] at h;cases h
  |
   some q =>
   obtain⟨AS,H1⟩:=q
   rw[hp] at h;cases h
   exact OJ hc ops hp
 |
  .seq a b,ρ,aQ,H,H',x,h=>by
  rw[dV] at h
  split at h
  ·rename_i h1
   exact(lH hc a h1).trans (lH hc b h)
  ·exact lH hc a h
 |
  .cond c a b,ρ,aQ,H,H',x,h=>by
  rw[dV] at h
  split at h
  ·split at h
   ·exact lH hc a h
   ·exact lH hc b h
  ·cases h
 |
  .block id a,ρ,aQ,H,H',x,h=>by
  rw[dV] at h
  split at h
  ·rename_i h1
   split at h<;>(cases h;exact lH hc a h1)
  ·exact lH hc a h
 |
  .loop a,ρ,aQ,H,H',x,h=>by
  rw[dV] at h
  exact KJ (fun ρ H x aQ H' h=>lH hc a h) n h
 | .exit id,_,_,_,_,_,h=>by cases h;exact Ext.refl _ _
 | .ret,_,_,_,_,_,h=>by cases h;exact Ext.refl _ _
theorem GI (E:Dc) (T:Tab):∀n,vC (oO E T n)
 | 0=>fun _ _ _ _ _ _ h=>by cases h
 |
  n+1=>fun f args lo H v H' h=>by
  rw[oO] at h
  split at h
  ·rename_i p _
   cases hp:p args H with
   | none=>rw[hp] at h;cases h
   | some u=>rw[hp] at h;cases h;exact Ext.refl _ _
  ·split at h
   ·cases h
   ·rename_i pf _
    split at h
    ·split at h
     ·rename_i AS H1 h1
      cases hr:uJ pf.res AS H1 with
      | none=>rw[hr] at h;cases h
      | some u=>rw[hr] at h;cases h;exact lH (GI E T n) _ h1
     ·rename_i AS H1 h1
      cases hr:uJ pf.res AS H1 with
      | none=>rw[hr] at h;cases h
      | some u=>rw[hr] at h;cases h;exact lH (GI E T n) _ h1
     ·cases h
    ·cases h
end
end Go.PM
namespace Go.PM
theorem Gy {α β:Type} {f:α→Option β}:∀ {l:List α} {ys:List β},l.mapM f=some ys→ys.length=l.length∧∀i (h:i<l.length),f l[i]=ys[i]?
 |
  [],ys,h=>by
  simp at h
  subst h
  exact⟨rfl,fun i h=>absurd h (by simp)⟩
 |
  x::l,ys,h=>by
  simp only[List.mapM_cons,Option.pure_def,Option.bind_eq_bind] at h
  cases h1:f x with
  | none=>rw[h1] at h;cases h
  |
   some y =>
   rw[h1] at h
   cases h2:l.mapM f with
   | none=>rw[h2] at h;cases h
   |
    some zs =>
    rw[h2] at h
    cases h
    obtain⟨k1,k2⟩:=Gy h2
    refine⟨by simp[k1],fun i hi => ?_⟩
    cases i with
    | zero=>simpa using h1
    | succ i=>simpa using k2 i (by simpa using hi)
theorem U4 {α β:Type} {f:α→Option β} {l:List α} {ys:List β} (h:l.mapM f=some ys) {i:Nat} {x:α} (hx:l[i]? = some x):∃y,ys[i]? = some y∧f x=some y:=by
 obtain⟨h1,h2⟩:=Gy h
 obtain⟨bI,rfl⟩:=aKD.1 hx
 have N2:i<ys.length:=by omega
 refine⟨ys[i],aKL N2,?_⟩
 rw[h2 i bI,aKL N2]
def Hn (E:Dc) (ops:List Oper) (M:List Nat) (i j:Nat) (pi pj:qK) (l:List (Operand×Operand)):Prop :=
 match gV E pi,gV E pj with
 | .look,.write | .write,.look=>ahead M i j=true∨∃a b,HC pi=some a∧HC pj=some b∧G1 ops i j a=true∧(a,b)∈l
 | .write,.write | .quiet,.write | .write,.quiet=>ahead M i j=true
 | _,_=>True
theorem Hn.mono {E:Dc} {ops:List Oper} {M:List Nat} {i j:Nat} {pi pj:qK} {l l':List (Operand×Operand)} (h:Hn E ops M i j pi pj l) (hl:∀x∈l,x∈l'):Hn E ops M i j pi pj l':=by
 unfold Hn at h ⊢
 split at h
 all_goals first
  | exact h
  | exact h.imp id fun⟨a,b,h1,h2,h3,h4⟩=>⟨a,b,h1,h2,h3,hl _ h4⟩
theorem NZ {E:Dc} {ops:List Oper} {ps:List qK} {M:List Nat} {j:Nat} {pj:qK} {l:List (Operand×Operand)} (h:conflicts E ops ps M j pj=some l) :
  ∀i,i<j→∀pi,ps[i]? = some pi→Hn E ops M i j pi pj l:=by
 have key:∀(is:List Nat) (l:List (Operand×Operand)),(is.foldr (fun i acc=>match acc,ps[i]? with
  |
   some l,some pi =>
   match gV E pi,gV E pj with
   |
    .look,.write | .write,.look =>
    if ahead M i j then some l
    else match HC pi,HC pj with
     | some a,some b=>if G1 ops i j a then some ((a,b)::l) else none
     | _,_=>none
   | .write,.write | .quiet,.write | .write,.quiet=>if ahead M i j then some l else none
   | _,_=>some l
  | _,_=>none) (some []))=some l→∀i∈is,∀pi,ps[i]? = some pi→Hn E ops M i j pi pj l:=by
  intro is
  induction is with
  | nil=>intro l _ i hi;cases hi
  |
   cons i0 is ih =>
   intro l h i hi pi hpi
   rw[List.foldr_cons] at h
   revert h
   generalize aEH:is.foldr _ (some [])=acc
   intro h
   cases acc with
   | none=>cases h
   |
    some l0 =>
    have ih':=ih l0 aEH
    cases Zf:ps[i0]? with
    | none=>rw[Zf] at h;cases h
    |
     some p0 =>
     rw[Zf] at h
     simp only at h
     have step:(∀x∈l0,x∈l)∧Hn E ops M i0 j p0 pj l:=by
      unfold Hn
      split at h
      ·rename_i c1 c2
       try rw[c1,c2]
       split at h
       ·rename_i ha;cases h;exact⟨fun x hx=>hx,.inl ha⟩
       ·split at h
        ·rename_i a b ta tb
         split at h
         ·rename_i hu;cases h;exact⟨fun x hx=>aLd _ hx,.inr ⟨a,b,ta,tb,hu,aLe⟩⟩
         ·cases h
        ·cases h
      ·rename_i c1 c2
       try rw[c1,c2]
       split at h
       ·rename_i ha;cases h;exact⟨fun x hx=>hx,.inl ha⟩
       ·split at h
        ·rename_i a b ta tb
         split at h
         ·rename_i hu;cases h;exact⟨fun x hx=>aLd _ hx,.inr ⟨a,b,ta,tb,hu,aLe⟩⟩
         ·cases h
        ·cases h
      ·rename_i c1 c2
       try rw[c1,c2]
       split at h
       ·rename_i ha;cases h;exact⟨fun x hx=>hx,ha⟩
       ·cases h
      ·rename_i c1 c2
       try rw[c1,c2]
       split at h
       ·rename_i ha;cases h;exact⟨fun x hx=>hx,ha⟩
       ·cases h
      ·rename_i c1 c2
       try rw[c1,c2]
       split at h
       ·rename_i ha;cases h;exact⟨fun x hx=>hx,ha⟩
       ·cases h
      ·cases h
       refine⟨fun x hx=>hx,?_⟩
       first | trivial | (split<;>first | trivial | (simp_all;done)) | (simp_all;done)
     rcases List.mem_cons.1 hi with rfl | hi
     ·rw[Zf] at hpi
      cases hpi
      exact step.2
     ·exact(ih' i hi pi hpi).mono step.1
 exact fun i hi pi hpi=>key _ l h i (aLf.2 hi) pi hpi
structure akW (P:Program) (E:Dc) (n:Nat) (ops:List Oper) (i:Nat) (o:Oper) (p:qK) (pi:PI):Prop where
 afH:tF P o.op=some p
 dst:pi.dst=o.dst
 op:pi.op=p
 guard:guardOf ops i o=some pi.g
 bound:∀d,o.dst=some d→d<n
structure Tg (E:Dc) (ops:List Oper) (ps:List qK) (M:List Nat) (i:Nat) (o:Oper) (p:qK) (pi:PI):Prop where
 back:∀e∈o.after.toList,Region.binds .any e=true→e.on<i
 guard:∀j w,o.guard=some (j,w)→(M.getD i 0).testBit j=true
 QJ:∀t∈o.dst.toList++AG ops o,∀k ok,ops[k]? = some ok→ok.dst=some t→k=i∨ahead M i k=true
 mask:M.getD i 0=AV o M
 quiet:pi.quiet=(match gV E p with | .quiet=>true | _=>false)
 aBE:∀k,k<i→∀pk,ps[k]? = some pk→Hn E ops M k i pk p pi.cf
theorem UM {P:Program} {E:Dc} {n:Nat} {ops:List Oper} {ps:List qK} {M:List Nat} {draw:Bool} {i:Nat} {pi:PI} (h:XE E ops ps M n draw i=some pi) {o:Oper} {p:qK} (ho:ops[i]? = some o) (hp:ps[i]? = some p)
  (aaF:tF P o.op=some p):akW P E n ops i o p pi∧(draw=true→Tg E ops ps M i o p pi)∧(draw=false→pi.quiet=false∧pi.cf=[]):=by
 unfold XE at h
 rw[ho,hp] at h
 simp only at h
 split at h
 case isFalse=>cases h
 rename_i hb
 have hbound:∀d,o.dst=some d→d<n:=by
  intro d hd
  rw[hd] at hb
  simpa[avK] using hb
 split at h
 ·cases h
 ·rename_i g hg
  cases draw with
  |
   false =>
   simp only[aLg,if_false] at h
   cases h
   exact⟨⟨aaF,rfl,rfl,hg,hbound⟩,(fun h=>by cases h),fun _=>⟨rfl,rfl⟩⟩
  |
   true =>
   simp only[if_true] at h
   split at h
   case isFalse=>cases h
   rename_i hc
   simp only[aLc,beq_iff_eq] at hc
   obtain⟨⟨⟨c1,c2⟩,c3⟩,c4⟩:=hc
   cases TY:conflicts E ops ps M i p with
   | none=>rw[TY] at h;cases h
   |
    some cf =>
    rw[TY] at h
    cases h
    refine⟨⟨aaF,rfl,rfl,hg,hbound⟩,fun _=>⟨fun e he hbd => ?_,fun j w hj => ?_,fun t ht k ok hk hkd => ?_,c4,rfl,NZ TY⟩,(fun h=>by cases h)⟩
    ·have:=aKS.1 c1 e he
     simpa[hbd] using this
    ·rw[hj] at c2
     exact c2
    ·have h1:=aKS.1 c3 t ht
     have hk':k<ops.length:=(aKD.1 hk).1
     have h2:=aKS.1 h1 k (aLf.2 hk')
     rw[hk] at h2
     simp only[aLh,bne_iff_ne,ne_eq,beq_iff_eq] at h2
     rcases h2 with(h2 | h2) | h2
     ·exact absurd hkd h2
     ·exact .inl h2
     ·exact .inr h2
structure avI (P:Program) (E:Dc) (n:Nat) (ops:List Oper) (draw:Bool) (xF:List PI) (ps:List qK) (M:List Nat):Prop where
 Hr:ps.length=ops.length
 aDS:xF.length=ops.length
 each:∀i o,ops[i]? = some o→∃p pi,ps[i]? = some p∧xF[i]? = some pi∧akW P E n ops i o p pi∧(draw=true→Tg E ops ps M i o p pi)∧(draw=false→pi.quiet=false∧pi.cf=[])
theorem M0 {P:Program} {E:Dc} {n:Nat} {ops:Array Oper} {draw:Bool} {xF:List PI} (h:A4 P E n ops draw=some xF):∃ps M,avI P E n ops.toList draw xF ps M:=by
 unfold A4 at h
 split at h
 ·rename_i ps hps
  simp only at h
  generalize (if draw=true then TF ops.toList [] else [])=M at h
  obtain⟨h1,h2⟩:=Gy hps
  obtain⟨h3,h4⟩:=Gy h
  refine⟨ps,M,h1,by simpa using h3,fun i o ho => ?_⟩
  have bI:=(aKD.1 ho).1
  obtain⟨p,hp,aaF⟩:=U4 hps ho
  have hr:(aKA ops.size)[i]? = some i:=by rw[List.getElem?_range];simpa using bI
  obtain⟨pi,hpi,hpp⟩:=U4 h hr
  exact⟨p,pi,hp,hpi,UM hpp ho hp aaF⟩
 ·cases h
theorem Qx {o:Oper} {M:List Nat} {i:Nat} (h:(AV o M).testBit i=true):∃e∈o.after.toList,Region.binds .any e=true∧(e.on=i∨(M.getD e.on 0).testBit i=true):=by
 unfold AV at h
 revert h
 generalize o.after.toList=es
 induction es with
 | nil=>intro h;simp at h
 |
  cons e es ih =>
  intro h
  rw[List.foldr_cons] at h
  split at h
  ·rename_i hb
   rw[Nat.testBit_or,Nat.testBit_or,aLh,aLh] at h
   rcases h with(h | h) | h
   ·obtain⟨e',h1,h2⟩:=ih h
    exact⟨e',aLd _ h1,h2⟩
   ·refine⟨e,aLe,hb,.inl ?_⟩
    rw[Nat.testBit_two_pow] at h
    simpa using h
   ·exact⟨e,aLe,hb,.inr h⟩
  ·obtain⟨e',h1,h2⟩:=ih h
   exact⟨e',aLd _ h1,h2⟩
theorem YS {ops:List Oper} {M:List Nat} {S:Nat→Prop} (hb:∀i o,ops[i]? = some o→∀e∈o.after.toList,Region.binds .any e=true→e.on<i) (hm:∀i o,ops[i]? = some o→M.getD i 0=AV o M)
  (hS:∀i o,ops[i]? = some o→S i→∀e∈o.after.toList,Region.binds .any e=true→S e.on):∀j o,ops[j]? = some o→(∀e∈o.after.toList,Region.binds .any e=true→S e.on)→∀i,(M.getD j 0).testBit i=true→S i:=by
 intro j
 induction j using Nat.strongRecOn with
 |
  _ j ih =>
  intro o ho hj i hi
  rw[hm j o ho] at hi
  obtain⟨e,he,hbd,h1⟩:=Qx hi
  rcases h1 with rfl | h1
  ·exact hj e he hbd
  ·have bI:=hb j o ho e he hbd
   have hjl:=(aKD.1 ho).1
   have hel:e.on<ops.length:=by omega
   exact ih e.on bI ops[e.on] (aKL hel) (hS e.on _ (aKL hel) (hj e he hbd)) i h1
end Go.PM
namespace Go.PM
def AP (P:Program) (L0:Nat) (call:iG):Prop :=
 ∀f args lo H v H',call f args lo H=some (v,H')→∀m w iV,Rel m L0 H w→L0≤lo→L0≤H.length→RL m args iV→(∀b,H.length≤b→b<H'.length→m b=none) →
  Oa P f∧Calls P f iV.toArray w fun e w'=>∃m' rv,e = .returned rv∧RV m' v rv∧Rel m' L0 H' w'∧Trans lo m H w m' H' w'
section
variable {P:Program} {m:dL} {L0:Nat} {H:aI} {w:World}
theorem yL {call:iG} {lo:Nat} {i:PI} {ρ:Env} {v:Value} {H':aI} (h:BX call lo i ρ H=some (v,H')) :
  (Cj i.g ρ=some false∧v=undef∧H'=H) ∨
  (Cj i.g ρ=some true∧i.cf.all (Dr ρ)=true∧(pop lo i.op ρ H=some (.val v H') ∨
   ∃f args,pop lo i.op ρ H=some (.call f args)∧call f args (if i.quiet then H.length else lo) H=some (v,H'))):=by
 unfold BX at h
 split at h
 ·cases h
 ·rename_i hw;cases h;exact .inl ⟨hw,rfl,rfl⟩
 ·rename_i hw
  split at h
  ·rename_i TY
   refine .inr ⟨hw,TY,?_⟩
   split at h
   ·rename_i hp;cases h;exact .inl hp
   ·rename_i f args hp;exact .inr ⟨f,args,hp,h⟩
   ·cases h
  ·cases h
theorem abZ {t:Array Value} {d:Nat} {b:Bool} (h:t.getD d undef = .bool b):t[d]? = some (.bool b):=by
 rcases aKH d t.size with hd | hd
 ·simp[hd] at h ⊢
  exact h
 ·simp[aLi hd,undef] at h
theorem IS {ops:Array Oper} {i:Nat} {o:Oper} {g:Option (Nat×Bool)} {ρ:Env} {a:Act} {t:Bool} (hg:guardOf ops.toList i o=some g) (hw:Cj g ρ=some t)
  (hr:∀d∈AG ops.toList o,RV m (ρ d) (a.tmps.getD d undef)):Region.wanted o (yielded ops a.tmps)=t:=by
 unfold guardOf at hg
 unfold Region.wanted
 cases hgd:o.guard with
 |
  none =>
  rw[hgd] at hg
  cases hg
  cases hw
  rfl
 |
  some jw =>
  obtain⟨j,want⟩:=jw
  rw[hgd] at hg
  simp only at hg
  split at hg
  ·split at hg
   ·rename_i d hd
    cases hg
    have Px:d∈AG ops.toList o:=by
     unfold AG
     rw[hgd]
     simp only[List.mem_append]
     right
     rw[hd]
     simp
    have HY:=hr d Px
    simp only[Cj] at hw
    split at hw
    ·rename_i b hb
     cases hw
     rw[hb] at HY
     generalize hx:a.tmps.getD d undef=x at HY
     cases HY
     have hy:yielded ops a.tmps j=some b:=by
      unfold yielded
      have hd':(ops[j]?).bind (·.dst)=some d:=by simpa using hd
      rw[hd',Option.bind_some,abZ hx]
     simp only[hy]
     cases b<;>cases want<;>rfl
    ·rename_i vs hb
     cases hw
     rw[hb] at HY
     generalize hx:a.tmps.getD d undef=x at HY
     obtain⟨ws,rfl⟩:∃ws,x = .tuple ws:=by cases HY;exact⟨_,rfl⟩
     have hd':(ops[j]?).bind (·.dst)=some d:=by simpa using hd
     have hy:yielded ops a.tmps j=none:=by
      unfold yielded
      rw[hd',Option.bind_some]
      rcases aKH d a.tmps.size with bI | bI
      ·have:a.tmps[d]? = some (.tuple ws):=by rw[←hx];simp[bI]
       rw[this]
      ·rw[aLi bI]
     simp only[hy]
     rfl
    ·cases hw
   ·cases hg
  ·cases hg
theorem amI {E:Dc} {p:qK} {lo fW:Nat} {ρ:Env} (h:gV E p = .quiet):pop lo p ρ H=pop fW p ρ H:=by
 cases p<;>first | rfl | (simp[gV] at h;done)
theorem HT {ops:List Oper} {o:Oper} {t:Nat} (h:Operand.tmp t∈o.op.operands):t∈AG ops o:=by
 unfold AG tmpsOf
 rw[List.mem_append]
 left
 rw[List.mem_filterMap]
 exact⟨.tmp t,by simpa using h,rfl⟩
theorem Pl {op:Op} {p:qK} (h:tF P op=some p):∀x∈op.operands,SV x=true:=by
 intro x hx
 unfold tF at h
 split at h
 ·rename_i jO
  obtain⟨i,hi,rfl⟩:=Array.getElem_of_mem hx
  exact Array.all_eq_true.1 jO i hi
 ·cases h
theorem SD {E:Dc} {n lo k:Nat} {ops:Array Oper} {o:Oper} {p:qK} {pi:PI} {call:iG} {ρ:Env} {v:Value} {H':aI} {a:Act} {K:Act→World→Prop} {Q:Exit→Act→World→Prop} (ho:ops[k]? = some o) (He:akW P E n ops.toList k o p pi)
  (hq:pi.quiet=true→gV E p = .quiet) (hv:BX call lo pi ρ H=some (v,H')) (hr:∀t∈AG ops.toList o,RV m (ρ t) (a.tmps.getD t undef)) (hR:Rel m L0 H w) (dS:L0≤lo) (hlen:L0≤H.length)
  (hf:∀b,H.length≤b→b<H'.length→m b=none) (qV:AP P L0 call)
  (hK:∀m' rv w',RV m' v rv→Rel m' L0 H' w'→Trans (if pi.quiet then H.length else lo) m H w m' H' w'→K (a.put o.dst rv) w'):wpOp P ops Q k K a w:=by
 have hro:∀x∈o.op.operands,RV m (ev ρ x) (a.eval x):=fun x hx=>Xq (Pl He.afH x hx) fun t ht=>hr t (HT (ht▸hx))
 unfold wpOp
 rw[ho]
 simp only
 rcases yL hv with⟨hw,rfl,rfl⟩ | ⟨hw,_,hp | ⟨f,args,hp,hc⟩⟩
 ·rw[IS He.guard hw hr]
  simp only[aLg,if_false]
  exact hK m undef w (RV.undef m) hR (Trans.refl _ m _ w)
 ·rw[IS He.guard hw hr]
  simp only[if_true]
  left
  rw[He.op] at hp
  have hs:cS P (execOp a.eval o) L0 (if pi.quiet then H.length else lo) m H w v H':=by
   split
   ·rename_i hqq
    rw[amI (fW:=H.length) (hq hqq)] at hp
    exact aaV He.afH hp hro hR hlen hf
   ·exact aaV He.afH hp hro hR dS hf
  obtain⟨rv,w',m',tA,h1,h2,h3⟩:=hs
  unfold Oper.wp
  rcases tA with tA | ⟨tA,rfl⟩
  ·rw[tA]
   exact hK m' rv w' h1 h2 h3
  ·rw[tA]
   exact hK m' undef w' h1 h2 h3
 ·rw[IS He.guard hw hr]
  simp only[if_true]
  left
  rw[He.op] at hp
  have aBO:L0≤(if pi.quiet then H.length else lo):=by split<;>assumption
  obtain⟨iV,Xa,aCc⟩:=afF He.afH hp hro
  have tA:=aCc (qV f args _ H v H' hc m w iV hR aBO hlen Xa hf).1
  unfold Oper.wp
  rw[tA w]
  show Calls P f iV.toArray w _
  refine(qV f args _ H v H' hc m w iV hR aBO hlen Xa hf).2.mono ?_
  rintro e w' ⟨m',rv,rfl,h1,h2,h3⟩
  exact hK m' rv w' h1 h2 h3
end
end Go.PM
namespace Go.PM
theorem Kd {call:iG} {lo:Nat}:∀ {xF:List PI} {ρ aQ:Env} {H H':aI},jB call lo xF ρ H=some (aQ,H') →
  ∃st:Nat→Env×aI,st 0=(ρ,H)∧st xF.length=(aQ,H')∧∀i pi,xF[i]? = some pi→BH call lo pi (st i).1 (st i).2=some (st (i+1))
 |
  [],ρ,aQ,H,H',h=>by
  cases h
  exact⟨fun _=>(ρ,H),rfl,rfl,fun i pi hi=>by simp at hi⟩
 |
  x::xF,ρ,aQ,H,H',h=>by
  rw[jB] at h
  split at h
  ·rename_i AS H1 h1
   obtain⟨st,h2,h3,h4⟩:=Kd h
   refine⟨fun i=>match i with | 0=>(ρ,H) | i+1=>st i,rfl,h3,fun i pi hi => ?_⟩
   cases i with
   |
    zero =>
    simp at hi
    subst hi
    show BH call lo x ρ H=some (st 0)
    rw[h1,h2]
   | succ i=>exact h4 i pi (by simpa using hi)
  ·cases h
theorem kO {H1 H2:aI} {b:Nat} (h:H2[b]? = H1[b]?):Live H2 b↔Live H1 b:=by
 unfold Live
 rw[h]
theorem Rel.restrict {m:dL} {L0:Nat} {H1 H2:aI} {w:World} (h:Rel m L0 H2 w) (hs:∀b,b<H1.length→H2[b]? = H1[b]?):Rel m L0 H1 w:=by
 refine⟨h.valid,fun b l cs e p hm hb=>h.row b l cs e p hm ?_,fun b1 b2 l1 l2 hb h1 h2 Dx Jl=>h.inj b1 b2 l1 l2 hb h1 h2 ((kO (hs b1 Dx.lt)).2 Dx) ((kO (hs b2 Jl.lt)).2 Jl),fun x hx=>⟨(h.Fz x hx).1,fun b l hb hm hl=>(h.Fz x hx).2 b l hb hm ((kO (hs b hl.lt)).2 hl)⟩⟩
 rw[hs b (aKD.1 hb).1]
 exact hb
theorem Rel.grow {m:dL} {L0:Nat} {H1 H2:aI} {w:World} (h:Rel m L0 H1 w) (hs:∀b,b<H1.length→H2[b]? = H1[b]?) (hd:∀b,H1.length≤b→b<H2.length→m b=none):Rel m L0 H2 w:=by
 have lt:∀b l,m b=some l→b<H2.length→b<H1.length:=fun b l hm hb=>by
  rcases aKH b H1.length with h | h
  ·exact h
  ·rw[hd b h hb] at hm;cases hm
 refine⟨h.valid,fun b l cs e p hm hb=>h.row b l cs e p hm ?_,fun b1 b2 l1 l2 hb h1 h2 Dx Jl=>h.inj b1 b2 l1 l2 hb h1 h2 ((kO (hs b1 (lt b1 l1 h1 Dx.lt))).1 Dx) ((kO (hs b2 (lt b2 l2 h2 Jl.lt))).1 Jl),fun x hx=>⟨(h.Fz x hx).1,fun b l hb hm hl=>(h.Fz x hx).2 b l hb hm ((kO (hs b (lt b l hm hl.lt))).1 hl)⟩⟩
 rw[←hs b (lt b l hm (aKD.1 hb).1)]
 exact hb
structure Text (P:Program) (E:Dc) (n:Nat) (ops:Array Oper) (xF:List PI) (ps:List qK) (M:List Nat) (call:iG) (lo:Nat) (st:Nat→Env×aI):Prop where
 ok:avI P E n ops.toList true xF ps M
 ext:vC call
 step:∀i pi,xF[i]? = some pi→BH call lo pi (st i).1 (st i).2=some (st (i+1))
section
variable {P:Program} {E:Dc} {n:Nat} {ops:Array Oper} {xF:List PI} {ps:List qK} {M:List Nat} {call:iG} {lo:Nat} {st:Nat→Env×aI}
theorem Text.at (T:Text P E n ops xF ps M call lo st) {i:Nat} (hi:i<ops.size):∃o p pi,ops[i]? = some o∧ps[i]? = some p∧xF[i]? = some pi∧akW P E n ops.toList i o p pi∧Tg E ops.toList ps M i o p pi ∧
  ∃v,BX call lo pi (st i).1 (st i).2=some (v,(st (i+1)).2)∧(st (i+1)).1=put (st i).1 o.dst v:=by
 have ho:ops.toList[i]? = some ops[i]:=by simp[hi]
 obtain⟨p,pi,h1,h2,h3,h4,_⟩:=T.ok.each i _ ho
 obtain⟨v,h5,h6⟩:=A5 (T.step i pi h2)
 exact⟨ops[i],p,pi,by simp[hi],h1,h2,h3,h4 rfl,v,h5,by rw[h6,h3.dst]⟩
theorem Text.aBH (T:Text P E n ops xF ps M call lo st) {i:Nat} (hi:i<ops.size):(st i).2.length≤(st (i+1)).2.length:=by
 obtain⟨o,p,pi,_,_,_,_,_,v,hv,_⟩:=T.at hi
 exact(NW T.ext hv).len
theorem Text.len (T:Text P E n ops xF ps M call lo st) {i:Nat}:∀ {j:Nat},i≤j→j≤ops.size→(st i).2.length≤(st j).2.length:=by
 intro j Qv
 induction j with
 | zero =>
    intro _;have:i=0:=by omega
    subst this;exact aKE _
 |
  succ j ih =>
  intro hj
  rcases aKH i (j+1) with h | h
  ·exact aKF (ih (by omega) (by omega)) (T.aBH (by omega))
  ·have:i=j+1:=by omega
   subst this;exact aKE _
theorem Text.aAM (T:Text P E n ops xF ps M call lo st) {i:Nat} {p:qK} (hi:i<ops.size) (hp:ps[i]? = some p) (hw:gV E p ≠ .write):∀b,b<(st i).2.length→(st (i+1)).2[b]? = (st i).2[b]? := by
 intro b hb
 obtain⟨o,p',pi,_,BY,_,He,hdr,v,hv,_⟩:=T.at hi
 rw[hp] at BY
 cases BY
 rcases yL hv with⟨_,_,h⟩ | ⟨_,_,h | ⟨f,args,h1,h2⟩⟩
 ·rw[h]
 ·rw[He.op] at h
  by_cases hq:gV E p = .quiet
  ·rw[amI (fW:=(st i).2.length) hq] at h
   exact(Y7 h).low b hb hb
  ·
   have:(st (i+1)).2=(st i).2:=by
    cases p<;>first
     | (exact absurd rfl hw)
     | (exact absurd rfl hq)
     | (rw[Bi rfl] at h;exact(Gg h).2)
     | skip
    case load agg size q =>
     simp only[pop] at h
     cases hl:rA agg size (ev (st i).1 q) (st i).2 with
     | none=>rw[hl] at h;cases h
     | some u=>rw[hl] at h;injection h with h;injection h with _ h;exact h.symm
    case b2s x =>
     simp only[pop] at h
     split at h
     ·injection h with h;injection h with _ h;exact h.symm
     ·split at h
      ·rename_i cs _
       cases hb:xT cs with
       | none=>rw[hb] at h;cases h
       | some bs=>rw[hb] at h;injection h with h;injection h with _ h;exact h.symm
      ·cases h
     ·cases h
    case sub size x l hh mx =>
     simp only[pop] at h
     cases mx with
     | some mx=>exact absurd rfl hq
     |
      none =>
      cases hs:E6 size (ev (st i).1 x) (l.map (ev (st i).1)) (hh.map (ev (st i).1)) ((none:Option Operand).map (ev (st i).1)) (st i).2 with
      | none=>rw[hs] at h;cases h
      |
       some q =>
       obtain⟨u,H1⟩:=q
       rw[hs] at h
       injection h with h;injection h with _ h
       subst h
       unfold E6 at hs
       simp only[Option.map_none,aLj,aLg,false_and,if_false] at hs
       repeat' (split at hs)
       all_goals first
        | (cases hs;done)
        | (injection hs with hs;injection hs with _ hs;exact hs.symm)
    case call f args=>cases h
   rw[this]
 ·rw[He.op] at h1
  have hq:pi.quiet=true:=by
   rw[hdr.quiet]
   rcases wY h1 with⟨g,as,rfl⟩ | ⟨g,as,rfl⟩
   ·simp only[gV] at hw ⊢
    split at hw
    ·exact absurd rfl hw
    ·rename_i h;rw[if_neg h]
   ·rfl
  rw[hq] at h2
  exact(T.ext _ _ _ _ _ _ h2).low b hb hb
end
end Go.PM
namespace Go.PM
theorem G8 {H H':aI} {lo b o:Nat} {new:List Value} (h:H.write lo b o new=some H') {b':Nat} (hb:b'≠b):H'[b']? = H[b']? := by
 obtain⟨cs,e,p,h1,h2,h3,h4,rfl⟩:=DY h
 exact aK3 (Ne.symm hb)
theorem ML {H H':aI} {lo size bytes add:Nat} {x v:Value} {new:List Value} (h:fK lo size bytes x add new H=some (v,H')) {b':Nat} (hb:kP x≠some b') (bI:b'<H.length):H'[b']? = H[b']? := by
 unfold fK at h
 split at h
 case isFalse=>cases h
 split at h
 ·split at h
  ·split at h
   ·cases h;rfl
   ·split at h
    ·cases h;exact aKV bI
    ·cases h
  ·cases h
 ·rename_i b o n c
  have gF:b'≠b:=fun e=>hb (by rw[e];rfl)
  split at h
  ·split at h
   ·split at h
    ·split at h
     ·cases h;rfl
     ·cases hw:aI.write H lo b (o+n*size) new with
      | none=>rw[hw] at h;cases h
      | some H1=>rw[hw] at h;cases h;exact G8 hw gF
    ·split at h
     ·split at h
      ·split at h
       ·cases h
        rw[aKV (by simpa using bI)]
        exact aK3 (Ne.symm gF)
       ·cases h
      ·cases h;exact aKV bI
     ·cases h
   ·cases h
  ·cases h
 ·cases h
theorem aqC {E:Dc} {lo:Nat} {p:qK} {ρ:Env} {H H':aI} {v:Value} {x:Operand} (h:pop lo p ρ H=some (.val v H')) (hw:gV E p = .write) (ht:HC p=some x) {b':Nat} (hb:kP (ev ρ x)≠some b') (bI:b'<H.length):H'[b']? = H[b']? := by
 cases p<;>first | (cases ht;done) | (cases hw;done) | skip
 case sub size y l hh mx=>cases mx<;>cases hw
 case store size q y =>
  cases ht
  simp only[pop] at h
  split at h
  ·rename_i b o he
   rw[he] at hb
   have gF:b'≠b:=fun e=>hb (by rw[e];rfl)
   split at h
   ·cases hw:H.write lo b o (aV (ev ρ y)) with
    | none=>rw[hw] at h;cases h
    | some H1=>rw[hw] at h;cases h;exact G8 hw gF
   ·cases h
  ·cases h
 case app size bytes y z =>
  cases ht
  simp only[pop] at h
  split at h
  ·rename_i n _
   split at h
   ·rename_i new _
    cases ha:fK lo size bytes (ev ρ x) n new H with
    | none=>rw[ha] at h;cases h
    |
     some q =>
     obtain⟨u,H1⟩:=q
     rw[ha] at h;cases h;exact ML ha hb bI
   ·cases h
  ·cases h
 case appz z bytes y n =>
  cases ht
  simp only[pop] at h
  split at h
  ·rename_i k _
   split at h
   ·cases ha:fK lo z.length bytes (ev ρ x) k.toNat (dF k.toNat z) H with
    | none=>rw[ha] at h;cases h
    |
     some q =>
     obtain⟨u,H1⟩:=q
     rw[ha] at h;cases h;exact ML ha hb bI
   ·cases h
  ·cases h
 case copy size y z =>
  cases ht
  simp only[pop] at h
  split at h
  ·cases h;rfl
  ·rename_i b o d _ s he _
   rw[he] at hb
   have gF:b'≠b:=fun e=>hb (by rw[e];rfl)
   split at h
   ·rename_i new _
    cases hw:H.write lo b o new with
    | none=>rw[hw] at h;cases h
    | some H1=>rw[hw] at h;cases h;exact G8 hw gF
   ·cases h
  ·cases h
 case clear z y =>
  cases ht
  simp only[pop] at h
  split at h
  ·cases h;rfl
  ·rename_i b o n _ he
   rw[he] at hb
   have gF:b'≠b:=fun e=>hb (by rw[e];rfl)
   split at h
   ·cases h;rfl
   ·cases hw:H.write lo b o (dF n z) with
    | none=>rw[hw] at h;cases h
    | some H1=>rw[hw] at h;cases h;exact G8 hw gF
  ·cases h
theorem Ts {H:aI} {b o n:Nat} {cs:List Value} (h:H.read b o n=some cs):b<H.length:=by
 unfold aI.read at h
 split at h
 ·rename_i hb;exact(aKD.1 hb).1
 ·cases h
theorem Ip {H H2:aI} {b o n:Nat} (h:H2[b]? = H[b]?):H2.read b o n=H.read b o n:=by
 unfold aI.read
 rw[h]
theorem Xs {agg:Bool} {size:Nat} {x v:Value} {H H2:aI} (h:rA agg size x H=some v) (hb:∀b,kP x=some b→b<H.length→H2[b]? = H[b]?):rA agg size x H2=some v:=by
 unfold rA at h ⊢
 split at h
 ·rename_i b o
  have bI:b<H.length:=by
   split at h
   ·cases hr:H.read b o size with
    | none=>rw[hr] at h;cases h
    | some cs=>exact Ts hr
   ·cases hr:H.read b o 1 with
    | none=>rw[hr] at h;cases h
    | some cs=>exact Ts hr
  have e:=hb b rfl bI
  simp only[Ip e]
  exact h
 ·cases h
theorem We {E:Dc} {lo:Nat} {p:qK} {ρ:Env} {H H' H2:aI} {v:Value} (h:pop lo p ρ H=some (.val v H')) (hc:gV E p = .look) (hb:∀x,HC p=some x→∀b,kP (ev ρ x)=some b→b<H.length→H2[b]? = H[b]?) :
  H'=H∧pop lo p ρ H2=some (.val v H2):=by
 cases p<;>first | (cases hc;done) | skip
 case call f args=>simp only[gV] at hc;split at hc<;>cases hc
 case load agg size q =>
  simp only[pop] at h ⊢
  cases hl:rA agg size (ev ρ q) H with
  | none=>rw[hl] at h;cases h
  |
   some u =>
   rw[hl] at h
   cases h
   refine⟨rfl,?_⟩
   rw[Xs hl (hb q rfl)]
   rfl
 case b2s x =>
  simp only[pop] at h ⊢
  split at h
  ·cases h;exact⟨rfl,rfl⟩
  ·rename_i b o n _ he
   split at h
   ·rename_i cs hr
    cases hbs:xT cs with
    | none=>rw[hbs] at h;cases h
    |
     some bs =>
     rw[hbs] at h
     cases h
     refine⟨rfl,?_⟩
     have e:=hb x rfl b (by rw[he];rfl) (Ts hr)
     rw[Ip e,hr]
     simp only[hbs]
     rfl
   ·cases h
  ·cases h
 case sub size x l hh mx =>
  cases mx with
  | some mx=>cases hc
  |
   none =>
   simp only[pop] at h ⊢
   cases hs:E6 size (ev ρ x) (l.map (ev ρ)) (hh.map (ev ρ)) ((none:Option Operand).map (ev ρ)) H with
   | none=>rw[hs] at h;cases h
   |
    some q =>
    obtain⟨u,H1⟩:=q
    rw[hs] at h
    cases h
    have xM:=hb x rfl
    generalize ev ρ x=xv at hs xM
    have key:H1=H∧E6 size xv (l.map (ev ρ)) (hh.map (ev ρ)) ((none:Option Operand).map (ev ρ)) H2=some (u,H2):=by
     unfold E6 at hs ⊢
     simp only[Option.map_none,aLj,aLg,false_and,if_false] at hs ⊢
     split at hs
     ·repeat' (split at hs)
      all_goals first | (cases hs;done) | skip
      cases hs
      simp_all
     ·rename_i b o n c
      split at hs
      ·rename_i cs e p mA
       have e1:=xM b rfl (aKD.1 mA).1
       rw[e1,mA]
       simp only
       repeat' (split at hs)
       all_goals first | (cases hs;done) | skip
       cases hs
       simp_all
      ·cases hs
     ·cases hs
    rw[key.2]
    exact⟨key.1,rfl⟩
section
variable {P:Program} {E:Dc} {n:Nat} {ops:Array Oper} {xF:List PI} {ps:List qK} {M:List Nat} {call:iG} {lo:Nat} {st:Nat→Env×aI}
theorem Text.ajF (T:Text P E n ops xF ps M call lo st) {i:Nat}:∀ {j:Nat},i≤j→j≤ops.size→Ext lo (st i).2 (st j).2:=by
 intro j Qv
 induction j with
 | zero =>
    intro _;have:i=0:=by omega
    subst this;exact Ext.refl _ _
 |
  succ j ih =>
  intro hj
  rcases aKH i (j+1) with h | h
  ·obtain⟨o,p,pi,_,_,_,_,_,v,hv,_⟩:=T.at (i:=j) (by omega)
   exact(ih (by omega) (by omega)).trans (NW T.ext hv)
  ·have:i=j+1:=by omega
   subst this;exact Ext.refl _ _
theorem Text.alT (T:Text P E n ops xF ps M call lo st) {i:Nat}:∀ {j:Nat},i≤j→j≤ops.size→∀b,b<(st i).2.length →
  (∀k,i≤k→k<j→∀p pi,ps[k]? = some p→xF[k]? = some pi→gV E p = .write→Cj pi.g (st k).1=some true→∃x,HC p=some x∧kP (ev (st k).1 x)≠some b) →
  (st j).2[b]? = (st i).2[b]? := by
 intro j Qv
 induction j with
 | zero =>
      intro _ b _ _;have:i=0:=by omega
      subst this;rfl
 |
  succ j ih =>
  intro hj b hb hk
  rcases aKH i (j+1) with h | h
  ·have bI:b<(st j).2.length:=aKG hb (T.len (by omega) (by omega))
   have h1:(st (j+1)).2[b]? = (st j).2[b]? := by
    obtain⟨o,p,pi,_,hp,hpi,He,_,v,hv,_⟩:=T.at (i:=j) (by omega)
    by_cases hw:gV E p = .write
    ·rcases yL hv with⟨_,_,h⟩ | ⟨hwt,_,h | ⟨f,args,h1,h2⟩⟩
     ·rw[h]
     ·rw[He.op] at h
      obtain⟨x,hx,gF⟩:=hk j (by omega) (by omega) p pi hp hpi hw hwt
      exact aqC h hw hx gF bI
     ·rw[He.op] at h1
      obtain⟨x,hx,gF⟩:=hk j (by omega) (by omega) p pi hp hpi hw hwt
      rcases wY h1 with⟨g,as,rfl⟩ | ⟨g,as,rfl⟩<;>cases hx
    ·exact T.aAM (by omega) hp hw b bI
   rw[h1]
   exact ih (by omega) (by omega) b hb fun k hk1 ZH=>hk k hk1 (by omega)
  ·have:i=j+1:=by omega
   subst this;rfl
theorem Text.same (T:Text P E n ops xF ps M call lo st) {i j:Nat} (Qv:i≤j) (hj:j≤ops.size) (hk:∀k,i≤k→k<j→∀p,ps[k]? = some p→gV E p ≠ .write):∀b,b<(st i).2.length→(st j).2[b]? = (st i).2[b]? :=
 fun b hb=>T.alT Qv hj b hb fun k h1 h2 p _ hp _ hw _=>absurd hw (hk k h1 h2 p hp)
theorem Text.TQ (T:Text P E n ops xF ps M call lo st) {i t:Nat}:∀ {j:Nat},i≤j→j≤ops.size→(∀k o,i≤k→k<j→ops[k]? = some o→o.dst≠some t)→(st j).1 t=(st i).1 t:=by
 intro j Qv
 induction j with
 | zero =>
      intro _ _;have:i=0:=by omega
      subst this;rfl
 |
  succ j ih =>
  intro hj hk
  rcases aKH i (j+1) with h | h
  ·obtain⟨o,p,pi,ho,hp,hpi,He,_,v,hv,he⟩:=T.at (i:=j) (by omega)
   rw[he]
   have gF:=hk j o (by omega) (by omega) ho
   have h1:put (st j).1 o.dst v t=(st j).1 t:=by
    cases hd:o.dst with
    | none=>rfl
    |
     some d =>
     rw[hd] at gF
     show (if t=d then v else _)=_
     rw[if_neg (fun e=>gF (by rw[e]))]
   rw[h1]
   exact ih (by omega) (by omega) fun k o hk1 ZH=>hk k o hk1 (by omega)
  ·have:i=j+1:=by omega
   subst this;rfl
end
end Go.PM
namespace Go.PM
theorem Bj {M:List Nat} {i j:Nat} (h:i<j):ahead M i j=(M.getD j 0).testBit i:=by
 unfold ahead
 have e1:Nat.max i j=j:=Nat.max_eq_right (by omega)
 have e2:aLb i j=i:=Nat.min_eq_left (by omega)
 rw[e1,e2]
theorem ajG {M:List Nat} {i j:Nat} (h:j<i):ahead M i j=(M.getD i 0).testBit j:=by
 unfold ahead
 have e1:Nat.max i j=i:=Nat.max_eq_left (by omega)
 have e2:aLb i j=j:=Nat.min_eq_right (by omega)
 rw[e1,e2]
theorem WL {a:Act} {d t:Nat} {v:Value} (hd:d<a.tmps.size):(a.put (some d) v).tmps.getD t undef=if t=d then v else a.tmps.getD t undef:=by
 show (a.tmps.setIfInBounds d v).getD t undef=_
 rcases aKH t a.tmps.size with h | h
 ·by_cases e:t=d
  ·subst e;simp[h]
  ·simp[h,e,Ne.symm e]
 ·have:t≠d:=by omega
  simp[h,this]
theorem JP (a:Act) (d:Option Nat) (v:Value):(a.put d v).tmps.size=a.tmps.size:=by
 cases d<;>simp[Act.put]
theorem Kh (a:Act) (d:Option Nat) (v:Value):(a.put d v).defers=a.defers:=by
 cases d<;>rfl
section
variable {P:Program} {E:Dc} {n:Nat} {ops:Array Oper} {xF:List PI} {ps:List qK} {M:List Nat} {call:iG} {lo L0:Nat} {st:Nat→Env×aI}
structure xA (E:Dc) (n:Nat) (ops:Array Oper) (ps:List qK) (lo L0:Nat) (st:Nat→Env×aI) (m0:dL) (w0:World) (ds:List Deferred) (S:Nat→Prop) (m:dL) (c:Nat) (a:Act) (w:World):Prop where
 Jr:a.tmps.size=n
 defs:a.defers=ds
 back:∀i o,ops.toList[i]? = some o→S i→∀e∈o.after.toList,Region.binds .any e=true→S e.on
 tm:∀t j,j≤ops.size→(∀i o,ops.toList[i]? = some o→o.dst=some t→(S i↔i<j))→RV m ((st j).1 t) (a.tmps.getD t undef)
 Rm:c≤ops.size
 before:∀i p,i<c→ps[i]? = some p→gV E p = .write→S i
 atc:c<ops.size→¬S c∧∃p,ps[c]? = some p∧gV E p = .write
 rel:Rel m L0 (st c).2 w
 tr:Trans lo m0 (st 0).2 w0 m (st c).2 w
 dom:∀b l,m b=some l→m0 b≠none∨∃i,S i∧i<ops.size∧(st i).2.length≤b∧b<(st (i+1)).2.length
theorem Text.anc (T:Text P E n ops xF ps M call lo st) {S:Nat→Prop} (hS:∀i o,ops.toList[i]? = some o→S i→∀e∈o.after.toList,Region.binds .any e=true→S e.on) {k:Nat} {o:Oper} (ho:ops.toList[k]? = some o)
  (hk:∀e∈o.after.toList,Region.binds .any e=true→S e.on) {i:Nat} (hi:(M.getD k 0).testBit i=true):S i :=
 YS (fun i o hio=>by
   obtain⟨p,pi,_,_,_,hd,_⟩:=T.ok.each i o hio
   exact(hd rfl).back) (fun i o hio=>by
   obtain⟨p,pi,_,_,_,hd,_⟩:=T.ok.each i o hio
   exact(hd rfl).mask) hS k o ho hk i hi
theorem Text.aaS (T:Text P E n ops xF ps M call lo st) {i:Nat} {p:qK} (hi:i<ops.size) (hp:ps[i]? = some p) (h:gV E p = .pure∨gV E p = .look):(st (i+1)).2=(st i).2:=by
 obtain⟨o,p',pi,_,BY,_,He,hdr,v,hv,_⟩:=T.at hi
 rw[hp] at BY
 cases BY
 rcases yL hv with⟨_,_,h'⟩ | ⟨_,_,h' | ⟨f,args,h1,h2⟩⟩
 ·exact h'
 ·rw[He.op] at h'
  rcases h with h | h
  ·have:xV p=true:=by
    cases p<;>first | rfl | (cases h;done) | skip
    case sub s x l hh mx=>cases mx<;>cases h
    case call f as=>simp only[gV] at h;split at h<;>cases h
   rw[Bi this] at h'
   exact(Gg h').2
  ·exact(We h' h (fun _ _ _ _ _=>rfl)).1
 ·exfalso
  rw[He.op] at h1
  rcases wY h1 with⟨g,as,rfl⟩ | ⟨g,as,rfl⟩
  ·simp only[gV] at h
   split at h<;>rcases h with h | h<;>cases h
  ·rcases h with h | h<;>cases h
theorem aeH {op:Op} {p:qK} {x:Operand} (h:tF P op=some p) (ht:HC p=some x):x∈op.operands:=by
 unfold tF at h
 split at h
 case isFalse=>cases h
 cases op with
 |
  load t q =>
  dsimp only at h
  cases hi:oN P t with
  | none=>rw[hi] at h;cases h
  | some u=>rw[hi] at h;cases h;cases ht;simp[Op.operands]
 |
  store t q v =>
  dsimp only at h
  cases hi:P.info? t with
  | none=>rw[hi] at h;cases h
  | some u=>rw[hi] at h;cases h;cases ht;simp[Op.operands]
 |
  slice t y l hh mx =>
  dsimp only at h
  split at h
  ·split at h
   ·cases h;cases ht
   ·cases h
  ·rename_i e _
   cases hi:oN P e with
   | none=>rw[hi] at h;cases h
   | some u=>rw[hi] at h;cases h;cases ht;simp[Op.operands]
  ·cases h
 |
  convert s d y =>
  dsimp only at h
  repeat' (split at h)
  all_goals first
   | (cases h;done)
   | (cases h;cases ht;done)
   | (cases h;cases ht;simp[Op.operands])
 |
  call c =>
  obtain⟨callee,args,ts⟩:=c
  cases callee with
  |
   builtin b =>
   simp only[rU] at h
   repeat' (split at h)
   all_goals first
    | (cases h;done)
    | (cases h;cases ht;done)
    | skip
   all_goals
    cases h
    cases ht
    have hm:x∈args.toList:=by simp_all
    simpa[Op.operands,Call.operands] using hm
  |
   value f =>
   cases f with
   | tmp g'=>cases h;cases ht
   | func g'=>cases h;cases ht
   | _=>cases h
  | invoke r s=>cases h
 |
  _ =>
  exfalso
  dsimp only at h
  try unfold DT at h
  repeat' (split at h)
  all_goals first
   | contradiction
   | (cases h;done)
   | (cases h;cases ht;done)
   | exact map_none h (by intro y h;cases h;cases ht)
end
end Go.PM
namespace Go.PM
theorem It (p:Nat→Prop):∀(d c N:Nat),N-c=d→c≤N→∃c',c≤c'∧c'≤N∧(∀i,c≤i→i<c'→¬p i)∧(c'<N→p c')
 | 0,c,N,hd,hc=>⟨c,aKE _,hc,fun i h1 h2=>by omega,fun h=>by omega⟩
 |
  d+1,c,N,hd,hc=>by
  by_cases hp:p c
  ·exact⟨c,aKE _,hc,fun i h1 h2=>by omega,fun _=>hp⟩
  ·obtain⟨c',h1,h2,h3,h4⟩:=It p d (c+1) N (by omega) (by omega)
   refine⟨c',by omega,h2,fun i hi1 vA => ?_,h4⟩
   rcases aKH c i with h | h
   ·exact h3 i h vA
   ·have:i=c:=by omega
    subst this;exact hp
theorem amO {m:dL} {v r:Value} {b:Nat} (h:RV m v r) (hb:kP v=some b):∃l,m b=some l:=by
 cases h<;>first | (cases hb;done) | (cases hb;exact⟨_,by assumption⟩)
section
variable {P:Program} {E:Dc} {n:Nat} {ops:Array Oper} {xF:List PI} {ps:List qK} {M:List Nat} {call:iG} {lo L0:Nat} {st:Nat→Env×aI}
 {m0:dL} {w0:World} {ds:List Deferred} {S:Nat→Prop} {m:dL} {c:Nat} {a:Act} {w:World} {k:Nat} {o:Oper} {p:qK} {pi:PI}
structure At (P:Program) (E:Dc) (n:Nat) (ops:Array Oper) (xF:List PI) (ps:List qK) (M:List Nat) (S:Nat→Prop) (k:Nat) (o:Oper) (p:qK) (pi:PI):Prop where
 lt:k<ops.size
 eo:ops[k]? = some o
 ep:ps[k]? = some p
 epi:xF[k]? = some pi
 ok:akW P E n ops.toList k o p pi
 dr:Tg E ops.toList ps M k o p pi
 aFC:¬S k
 anc:∀i,(M.getD k 0).testBit i=true→S i
 desc:∀i,i<ops.size→S i→(M.getD i 0).testBit k=true→False
theorem At.ah (A:At P E n ops xF ps M S k o p pi) {i:Nat} (hi:i<ops.size) (h:i=k∨ahead M k i=true):S i↔i<k:=by
 rcases aLk i k with h1 | h1 | h1
 ·refine⟨fun _=>h1,fun _ => ?_⟩
  rcases h with h | h
  ·omega
  ·rw[ajG h1] at h;exact A.anc i h
 ·subst h1
  exact⟨fun h=>absurd h A.aFC,fun h=>by omega⟩
 ·refine⟨fun hs => ?_,fun h=>by omega⟩
  rcases h with h | h
  ·omega
  ·rw[Bj h1] at h;exact absurd h (fun h=>A.desc i hi hs h)
theorem Ik {i:Nat} {oi:Oper} (h:ops.toList[i]? = some oi):i<ops.size:=by
 have:=(aKD.1 h).1
 simpa using this
theorem At.reads (A:At P E n ops xF ps M S k o p pi) (I:xA E n ops ps lo L0 st m0 w0 ds S m c a w):∀t∈AG ops.toList o,RV m ((st k).1 t) (a.tmps.getD t undef):=by
 intro t ht
 refine I.tm t k (aLl A.lt) fun i oi hi hd => ?_
 exact A.ah (Ik hi) (A.dr.QJ t (List.mem_append_right _ ht) i oi hi hd)
theorem At.operand (A:At P E n ops xF ps M S k o p pi) (I:xA E n ops ps lo L0 st m0 w0 ds S m c a w) {x:Operand} (hx:x∈o.op.operands):RV m (ev (st k).1 x) (a.eval x) :=
 Xq (Pl A.ok.afH x hx) fun t ht=>A.reads I t (HT (ht▸hx))
theorem At.pair (T:Text P E n ops xF ps M call lo st) {i j:Nat} {p q:qK} (Qv:i<j) (hj:j<ops.size) (hp:ps[i]? = some p) (hq:ps[j]? = some q):∃qi,xF[j]? = some qi∧Hn E ops.toList M i j p q qi.cf:=by
 obtain⟨o,q',qi,_,Ob,hqi,_,hd,_⟩:=T.at hj
 rw[hq] at Ob
 cases Ob
 exact⟨qi,hqi,hd.aBE i Qv p hp⟩
theorem xA.late (T:Text P E n ops xF ps M call lo st) (I:xA E n ops ps lo L0 st m0 w0 ds S m c a w) {i:Nat} {q:qK} (hi:c<i) (hn:i<ops.size) (hS:S i) (hq:ps[i]? = some q):gV E q = .pure∨gV E q = .look:=by
 obtain⟨hcS,pc,hpc,TX⟩:=I.atc (by omega)
 obtain⟨qi,_,lE⟩:=At.pair T hi hn hpc hq
 unfold Hn at lE
 rw[TX] at lE
 obtain⟨oi,_,_,hoi,_⟩:=T.at hn
 have V9:ops.toList[i]? = some oi:=by simpa using hoi
 have fin:ahead M c i=true→False:=fun h=>by
  rw[Bj hi] at h
  exact hcS (T.anc I.back V9 (I.back i oi V9 hS) h)
 cases mM:gV E q with
 | pure=>exact .inl rfl
 | look=>exact .inr rfl
 | quiet=>rw[mM] at lE;exact absurd lE fin
 | write=>rw[mM] at lE;exact absurd lE fin
theorem xA.QJ (T:Text P E n ops xF ps M call lo st) (I:xA E n ops ps lo L0 st m0 w0 ds S m c a w) (A:At P E n ops xF ps M S k o p pi) {m':dL} {v rv:Value} (hm:∀b l,m b=some l→m' b=some l) (hv:RV m' v rv)
  (he:(st (k+1)).1=put (st k).1 o.dst v):∀t j,j≤ops.size→(∀i o,ops.toList[i]? = some o→o.dst=some t→((i=k∨S i)↔i<j))→RV m' ((st j).1 t) ((a.put o.dst rv).tmps.getD t undef):=by
 intro t j hj hw
 have He:ops.toList[k]? = some o:=by simpa using A.eo
 cases hd:o.dst with
 |
  none =>
  show RV m' _ (a.tmps.getD t undef)
  refine(I.tm t j hj fun i oi hi hdi => ?_).mono hm
  have gF:i≠k:=fun e=>by subst e;rw[He] at hi;cases hi;rw[hd] at hdi;cases hdi
  rw[←hw i oi hi hdi]
  simp[gF]
 |
  some d =>
  rw[WL (by rw[I.Jr];exact A.ok.bound d hd)]
  by_cases htd:t=d
  ·subst htd
   rw[if_pos rfl]
   have hkj:k<j:=(hw k o He hd).1 (.inl rfl)
   have e1:(st j).1 t=(st (k+1)).1 t:=by
    refine T.TQ hkj hj fun i oi hi1 vA hoi hdi => ?_
    have V9:ops.toList[i]? = some oi:=by simpa using hoi
    have hS:=(hw i oi V9 hdi).2 vA
    have WJ:i≠k:=by omega
    have:=(A.ah (Ik V9) (A.dr.QJ t (List.mem_append_left _ (by rw[hd];simp)) i oi V9 hdi)).1 (hS.resolve_left WJ)
    omega
   rw[e1,he,hd]
   show RV m' (if t=t then v else _) rv
   rw[if_pos rfl]
   exact hv
  ·rw[if_neg htd]
   refine(I.tm t j hj fun i oi hi hdi => ?_).mono hm
   have gF:i≠k:=fun e=>by subst e;rw[He] at hi;cases hi;rw[hd] at hdi;cases hdi;exact htd rfl
   rw[←hw i oi hi hdi]
   simp[gF]
theorem xA.anR (I:xA E n ops ps lo L0 st m0 w0 ds S m c a w) (A:At P E n ops xF ps M S k o p pi) (hr:∀e∈o.after.toList,Region.binds .any e=true→S e.on) :
  ∀i oi,ops.toList[i]? = some oi→(i=k∨S i)→∀e∈oi.after.toList,Region.binds .any e=true→(e.on=k∨S e.on):=by
 intro i oi hi hS e he hb
 rcases hS with rfl | hS
 ·have:ops.toList[i]? = some o:=by simpa using A.eo
  rw[this] at hi
  cases hi
  exact .inr (hr e he hb)
 ·exact .inr (I.back i oi hi hS e he hb)
theorem JL (T:Text P E n ops xF ps M call lo st) {i j:Nat} {x:Operand} (Qv:i≤j) (hj:j≤ops.size) (h:G1 ops.toList i j x=true):ev (st j).1 x=ev (st i).1 x:=by
 cases x with
 |
  tmp t =>
  refine T.TQ Qv hj fun q oq h1 h2 hoq hd => ?_
  have jO:=aKS.1 h oq (by
   have aEk:ops.toList[q]? = some oq:=by simpa using hoq
   rw[List.mem_iff_getElem?]
   refine⟨q-i,?_⟩
   rw[List.getElem?_drop,List.getElem?_take,show i+(q-i)=q by omega,if_pos h2,aEk])
  simp[hd] at jO
 | const v=>rfl
 | global g=>rfl
 | func f=>rfl
theorem xA.look (T:Text P E n ops xF ps M call lo st) (I:xA E n ops ps lo L0 st m0 w0 ds S m c a w) (A:At P E n ops xF ps M S k o p pi) (DX:∀b,(st 0).2.length≤b→b<(st ops.size).2.length→m0 b=none)
  (mM:gV E p = .pure∨gV E p = .look) {v:Value} (hv:BX call lo pi (st k).1 (st k).2=some (v,(st (k+1)).2)):BX call lo pi (st k).1 (st c).2=some (v,(st c).2):=by
 rcases yL hv with⟨hw,rfl,_⟩ | ⟨hw,TY,hp | ⟨f,args,hp,_⟩⟩
 ·unfold BX
  rw[hw]
 ·unfold BX
  rw[hw]
  simp only[TY,if_true]
  have key:pop lo pi.op (st k).1 (st c).2=some (.val v (st c).2):=by
   rw[A.ok.op] at hp ⊢
   rcases mM with mM | mM
   ·have hlp:xV p=true:=by
     cases p<;>first | rfl | (cases mM;done) | skip
     case sub s x l hh mx=>cases mx<;>cases mM
     case call f as=>simp only[gV] at mM;split at mM<;>cases mM
    rw[Bi hlp] at hp ⊢
    rw[(Gg hp).1]
    rfl
   ·refine(We hp mM fun x hx b hb bI => ?_).2
    rcases aKH c k with hck | hck
    ·obtain⟨hcS,pc,hpc,TX⟩:=I.atc (Nat.lt_trans hck A.lt)
     have N2:b<(st c).2.length:=by
      rcases aKH b (st c).2.length with h | h
      ·exact h
      ·exfalso
       obtain⟨l,hl⟩:=amO (A.operand I (aeH A.ok.afH hx)) hb
       have h0:=T.len (i:=0) (j:=c) (aK8 _) I.Rm
       have h1:=T.len (i:=k) (j:=ops.size) (aLl A.lt) (aKE _)
       rcases I.dom b l hl with h2 | ⟨i,hiS,bW,hi1,vA⟩
       ·exact h2 (DX b (by omega) (by omega))
       ·rcases aLk i c with h3 | h3 | h3
        ·have:=T.len (i:=i+1) (j:=c) h3 I.Rm
         omega
        ·subst h3;exact hcS hiS
        ·obtain⟨oi,qi,pii,_,hqi,_⟩:=T.at bW
         have:=I.late T h3 bW hiS hqi
         rw[T.aaS bW hqi this] at vA
         omega
     refine(T.alT (aLl hck) (aLl A.lt) b N2 fun j hj1 Hg q qi hq hqi hqw auC => ?_).symm
     obtain⟨pi',aA1,lE⟩:=At.pair T Hg A.lt hq A.ep
     rw[A.epi] at aA1
     cases aA1
     unfold Hn at lE
     rw[hqw,mM] at lE
     rcases lE with h | ⟨xa,xb,ha,xM,hun,Px⟩
     ·exfalso
      rw[Bj Hg] at h
      have hjS:=A.anc j h
      rcases aKH c j with h3 | h3
      ·rcases I.late T h3 (Nat.lt_trans Hg A.lt) hjS hq with h4 | h4<;>(rw[hqw] at h4;cases h4)
      ·have:j=c:=by omega
       subst this;exact hcS hjS
     ·rw[hx] at xM
      cases xM
      refine⟨xa,ha,fun e => ?_⟩
      have hk:=aKS.1 TY _ Px
      unfold Dr at hk
      rw[JL T (aLl Hg) (aLl A.lt) hun,e,hb] at hk
      simp at hk
    ·refine T.alT hck I.Rm b bI fun j hj1 Hg q qi hq hqi hqw auC => ?_
     have SQ:k<j:=by
      rcases aKH k j with h | h
      ·exact h
      ·have:j=k:=by omega
       subst this
       rw[A.ep] at hq
       cases hq
       rw[hqw] at mM
       cases mM
     have Eo:j<ops.size:=aKG Hg I.Rm
     obtain⟨oj,q',qi',hoj,Ob,ajO,aJH,_,vj,hvj,_⟩:=T.at Eo
     rw[hq] at Ob
     cases Ob
     rw[hqi] at ajO
     cases ajO
     obtain⟨qi',ajO,lE⟩:=At.pair T SQ Eo A.ep hq
     rw[hqi] at ajO
     cases ajO
     unfold Hn at lE
     rw[hqw,mM] at lE
     rcases lE with h | ⟨xa,xb,ha,xM,hun,Px⟩
     ·exfalso
      rw[Bj SQ] at h
      exact A.desc j Eo (I.before j q Hg hq hqw) h
     ·rw[hx] at ha
      cases ha
      refine⟨xb,xM,fun e => ?_⟩
      have aE2:qi.cf.all (Dr (st j).1)=true:=by
       rcases yL hvj with⟨h,_⟩ | ⟨_,h,_⟩
       ·rw[auC] at h;cases h
       ·exact h
      have hk:=aKS.1 aE2 _ Px
      unfold Dr at hk
      rw[JL T (aLl SQ) (aLl Eo) hun,e,hb] at hk
      simp at hk
  rw[key]
 ·exfalso
  rw[A.ok.op] at hp
  rcases wY hp with⟨g,as,rfl⟩ | ⟨g,as,rfl⟩
  ·simp only[gV] at mM
   split at mM<;>rcases mM with h | h<;>cases h
  ·rcases mM with h | h<;>cases h
end
end Go.PM
namespace Go.PM
section
variable {P:Program} {E:Dc} {n:Nat} {ops:Array Oper} {xF:List PI} {ps:List qK} {M:List Nat} {call:iG} {lo L0:Nat} {st:Nat→Env×aI}
 {m0:dL} {w0:World} {ds:List Deferred}
theorem Jk {H:aI} {b:Nat} (h:H.length≤b):¬Live H b:=fun hl=>by have:=hl.lt;omega
theorem ajV {S:Nat→Prop} {m:dL} {c:Nat} {a:Act} {w:World} {k:Nat} {o:Oper} (T:Text P E n ops xF ps M call lo st) (qV:AP P L0 call) (dS:L0≤lo) (Ci:L0≤(st 0).2.length)
  (DX:∀b,(st 0).2.length≤b→b<(st ops.size).2.length→m0 b=none) (I:xA E n ops ps lo L0 st m0 w0 ds S m c a w) (ho:ops[k]? = some o) (hkS:¬S k)
  (hr:∀e∈o.after.toList,Region.binds .any e=true→S e.on) {K:Act→World→Prop} {Q:Exit→Act→World→Prop}
  (hK:∀m' c' a' w',xA E n ops ps lo L0 st m0 w0 ds (fun i=>i=k∨S i) m' c' a' w'→K a' w'):wpOp P ops Q k K a w:=by
 have bI:k<ops.size:=(aKN.1 ho).1
 obtain⟨o',p,pi,ho',hp,hpi,He,hdr,v,hv,he⟩:=T.at bI
 rw[ho] at ho'
 cases ho'
 have ho2:ops.toList[k]? = some o:=by simpa using ho
 have A:At P E n ops xF ps M S k o p pi:=⟨bI,ho,hp,hpi,He,hdr,hkS,fun i hi=>T.anc I.back ho2 hr hi,fun i hi hS hb=>by
  have hio:ops.toList[i]? = some ops[i]:=by simp[hi]
  exact hkS (T.anc I.back hio (I.back i _ hio hS) hb)⟩
 have YK:=A.reads I
 have auT:=T.len (i:=0) (j:=c) (aK8 _) I.Rm
 have aAS:=T.len (i:=c) (j:=ops.size) I.Rm (aKE _)
 have aBN:=T.len (i:=0) (j:=k) (aK8 _) (aLl bI)
 have aE3:=T.len (i:=k+1) (j:=ops.size) bI (aKE _)
 have aFA:=T.aBH bI
 have hfk:∀b,(st k).2.length≤b→b<(st (k+1)).2.length→m b=none:=by
  intro b h1 h2
  cases hm:m b with
  | none=>rfl
  |
   some l =>
   exfalso
   rcases I.dom b l hm with h3 | ⟨i,hiS,bW,hi1,vA⟩
   ·exact h3 (DX b (by omega) (by omega))
   ·rcases aLk i k with h3 | h3 | h3
    ·have:=T.len (i:=i+1) (j:=k) h3 (aLl bI)
     omega
    ·subst h3;exact hkS hiS
    ·have:=T.len (i:=k+1) (j:=i) h3 (aLl bW)
     omega
 have UB:(gV E p = .pure∨gV E p = .look)→wpOp P ops Q k K a w:=by
  intro mM
  have hq:pi.quiet=false:=by
   rw[hdr.quiet]
   rcases mM with h | h<;>rw[h]
  have hw:gV E p ≠ .write:=by rcases mM with h | h<;>(rw[h];exact fun h=>by cases h)
  refine SD ho He (fun h=>by rw[hq] at h;cases h) (I.look T A DX mM hv) YK I.rel dS (aKF Ci auT) (fun b h1 h2=>by omega) qV fun m' rv w' XF hR hT => ?_
  rw[hq] at hT
  simp only[aLg,if_false] at hT
  have hmm:m'=m:=by
   funext b
   cases hm:m b with
   | some l=>exact hT.ext b l hm
   |
    none =>
    cases hm':m' b with
    | none=>rfl
    | some l=>have:=(hT.new b l hm' hm).1;omega
  subst hmm
  refine hK m' c _ w' ⟨by rw[JP];exact I.Jr,by rw[Kh];exact I.defs,I.anR A hr,I.QJ T A (fun _ _ h=>h) XF he,I.Rm,fun i q h1 h2 h3 => .inr (I.before i q h1 h2 h3),?_,hR,?_,?_⟩
  ·intro h
   obtain⟨h1,q,h2,h3⟩:=I.atc h
   refine⟨fun hS=>hS.elim (fun e => ?_) h1,q,h2,h3⟩
   subst e
   rw[hp] at h2
   cases h2
   exact hw h3
  ·exact Trans.trans (fun b h1 h2=>DX b h1 (by omega)) (T.ajF (aK8 _) I.Rm) (Ext.refl _ _) I.tr hT
  ·intro b l hb
   exact(I.dom b l hb).imp id fun⟨i,h1,h2⟩=>⟨i,.inr h1,h2⟩
 cases mM:gV E p with
 |
  write =>
  have hkc:k=c:=by
   rcases aLk k c with h | h | h
   ·exact absurd (I.before k p h hp mM) hkS
   ·exact h
   ·exfalso
    obtain⟨hcS,pc,hpc,TX⟩:=I.atc (by omega)
    obtain⟨qi,_,lE⟩:=At.pair T h bI hpc hp
    unfold Hn at lE
    rw[TX,mM] at lE
    simp only at lE
    rw[Bj h] at lE
    exact hcS (A.anc c lE)
  subst hkc
  refine SD ho He (fun hq=>by rw[hdr.quiet,mM] at hq;cases hq) hv YK I.rel dS (aKF Ci auT) hfk qV fun m' rv w' XF hR hT => ?_
  have hq:pi.quiet=false:=by rw[hdr.quiet,mM]
  rw[hq] at hT
  simp only[aLg,if_false] at hT
  obtain⟨c',hc1,hc2,hc3,hc4⟩:=It (fun i=>∃q,ps[i]? = some q∧gV E q = .write) _ (k+1) ops.size rfl bI
  have QP:∀b,b<(st (k+1)).2.length→(st c').2[b]? = (st (k+1)).2[b]? := T.same hc1 hc2 fun i h1 h2 q hq hw=>hc3 i h1 h2 ⟨q,hq,hw⟩
  have aEL:=T.len hc1 hc2
  have aBF:=T.len (i:=c') (j:=ops.size) hc2 (aKE _)
  have aBk:∀b l,m' b=some l→m0 b≠none∨∃i,(i=k∨S i)∧i<ops.size∧(st i).2.length≤b∧b<(st (i+1)).2.length:=by
   intro b l hb
   cases hm:m b with
   | some l'=>exact(I.dom b l' hm).imp id fun⟨i,h1,h2⟩=>⟨i,.inr h1,h2⟩
   | none=>exact .inr ⟨k,.inl rfl,bI,(hT.new b l hb hm).1⟩
  have avS:∀b,(st (k+1)).2.length≤b→b<(st c').2.length→m' b=none:=by
   intro b h1 h2
   cases hm:m' b with
   | none=>rfl
   |
    some l =>
    exfalso
    rcases aBk b l hm with h3 | ⟨i,hiS,bW,hi1,vA⟩
    ·exact h3 (DX b (by omega) (by omega))
    ·rcases aLk i k with h3 | h3 | h3
     ·have:=T.len (i:=i+1) (j:=k) h3 (aLl bI)
      omega
     ·subst h3;omega
     ·obtain⟨oi,qi,pii,_,hqi,_⟩:=T.at bW
      have:=I.late T h3 bW (hiS.resolve_left (by omega)) hqi
      rw[T.aaS bW hqi this] at vA
      omega
  have hTT:Trans lo m0 (st 0).2 w0 m' (st (k+1)).2 w':=Trans.trans (fun b h1 h2=>DX b h1 (by omega)) (T.ajF (aK8 _) (aLl bI)) (T.ajF (Nat.le_succ _) bI) I.tr hT
  refine hK m' c' _ w' ⟨by rw[JP];exact I.Jr,by rw[Kh];exact I.defs,I.anR A hr,I.QJ T A hT.ext XF he,hc2,?_,?_,hR.grow QP avS,?_,aBk⟩
  ·intro i q hi hq hw
   rcases aLk i k with h | h | h
   ·exact .inr (I.before i q h hq hw)
   ·exact .inl h
   ·exact absurd ⟨q,hq,hw⟩ (hc3 i h hi)
  ·intro h
   obtain⟨q,hq,hw⟩:=hc4 h
   refine⟨fun hS => ?_,q,hq,hw⟩
   rcases hS with hS | hS
   ·omega
   ·rcases I.late T (by omega) h hS hq with h4 | h4<;>(rw[hw] at h4;cases h4)
  ·refine⟨hTT.ext,fun b l hb hn => ?_,hTT.size,hTT.dB,hTT.same⟩
   obtain⟨⟨h1,h2⟩,h3⟩:=hTT.new b l hb hn
   refine⟨⟨h1,by omega⟩,?_⟩
   rcases h3 with h3 | h3 | h3
   ·exact .inl h3
   ·exact .inr (.inl fun hl=>h3 ((kO (QP b h2)).1 hl))
   ·exact .inr (.inr h3)
 |
  quiet =>
  have hkc:k<c:=by
   rcases aKH k c with h | h
   ·exact h
   ·exfalso
    rcases aKH c k with h' | h'
    ·obtain⟨hcS,pc,hpc,TX⟩:=I.atc (by omega)
     obtain⟨qi,_,lE⟩:=At.pair T h' bI hpc hp
     unfold Hn at lE
     rw[TX,mM] at lE
     simp only at lE
     rw[Bj h'] at lE
     exact hcS (A.anc c lE)
    ·have:k=c:=by omega
     subst this
     obtain⟨_,pc,hpc,TX⟩:=I.atc bI
     rw[hp] at hpc
     cases hpc
     rw[mM] at TX
     cases TX
  have aeS:∀i,k<i→i<c→∀q,ps[i]? = some q→gV E q ≠ .write:=by
   intro i h1 h2 q hq hw
   have bW:i<ops.size:=aKG h2 I.Rm
   obtain⟨qi,_,lE⟩:=At.pair T h1 bW hp hq
   unfold Hn at lE
   rw[mM,hw] at lE
   simp only at lE
   rw[Bj h1] at lE
   exact A.desc i bW (I.before i q h2 hq hw) lE
  have Fv:∀b,b<(st (k+1)).2.length→(st c).2[b]? = (st (k+1)).2[b]? := T.same hkc I.Rm fun i h1 h2 q hq=>aeS i h1 h2 q hq
  have hs0:∀b,b<(st k).2.length→(st c).2[b]? = (st k).2[b]? := T.same (aLl hkc) I.Rm fun i h1 h2 q hq=>by
   rcases aKH k i with h | h
   ·exact aeS i h h2 q hq
   ·have:i=k:=by omega
    subst this
    rw[hp] at hq
    cases hq
    rw[mM]
    exact fun h=>by cases h
  have aF0:=T.len (i:=k+1) (j:=c) hkc I.Rm
  refine SD ho He (fun _=>mM) hv YK (I.rel.restrict hs0) dS (aKF Ci aBN) hfk qV fun m' rv w' XF hR hT => ?_
  have hq:pi.quiet=true:=by rw[hdr.quiet,mM]
  rw[hq] at hT
  simp only[if_true] at hT
  have tX:∀rb,rb<w.heap.size→w'.heap[rb]? = w.heap[rb]? := fun rb A2=>hT.dB rb A2 fun b l hb _ hl=>absurd hl (Jk hb)
  have pY:∀b l,m' b=some l→m b=none→((st k).2.length≤b∧b<(st (k+1)).2.length)∧(w.heap.size≤l.rb∨¬Live (st (k+1)).2 b):=by
   intro b l h1 h2
   obtain⟨h3,h4⟩:=hT.new b l h1 h2
   refine⟨h3,?_⟩
   rcases h4 with h4 | h4 | ⟨b0,l0,g1,_,g3,_⟩
   ·exact .inl h4
   ·exact .inr h4
   ·exact absurd g3 (Jk g1)
  have aBz:∀b l,m b=some l→l.rb<w.heap.size:=by
   intro b l hb
   obtain⟨arr,e,fz,h1,_⟩:=I.rel.valid b l hb
   exact(aKN.1 h1).1
  have Y4:∀rb j,rb<w.heap.size→w'.cell? ⟨rb,j,none⟩=w.cell? ⟨rb,j,none⟩:=by
   intro rb j A2
   unfold World.cell?
   simp only[tX rb A2]
  have D3:∀b l,m' b=some l→(st (k+1)).2.length≤b→m b=some l:=by
   intro b l hb h
   cases hm:m b with
   | some l'=>have:=hT.ext b l' hm;rw[hb] at this;exact this.symm
   | none=>have:=(pY b l hb hm).1.2;omega
  refine hK m' c _ w' ⟨by rw[JP];exact I.Jr,by rw[Kh];exact I.defs,I.anR A hr,I.QJ T A hT.ext XF he,I.Rm,fun i q h1 h2 h3 => .inr (I.before i q h1 h2 h3),?_,⟨hR.valid,?_,?_,?_⟩,?_,?_⟩
  ·intro h
   obtain⟨h1,q,h2,h3⟩:=I.atc h
   exact⟨fun hS=>hS.elim (fun e=>by omega) h1,q,h2,h3⟩
  ·intro b l cs e pp hm hb
   rcases aKH b (st (k+1)).2.length with h | h
   ·exact hR.row b l cs e pp hm (by rw[←Fv b h];exact hb)
   ·have hmo:=D3 b l hm h
    obtain⟨h1,h2,h3,h4⟩:=I.rel.row b l cs e pp hmo hb
    refine⟨h1,h2,h3,fun i hi => ?_⟩
    obtain⟨rv',g1,g2,g3⟩:=h4 i hi
    exact⟨rv',by rw[Y4 _ _ (aBz b l hmo)];exact g1,g2.mono hT.ext,g3⟩
  ·intro b1 b2 l1 l2 GJ h1 h2 Dx Jl A2
   have fresh:∀b b' l l',m' b=some l→m b=none→m b'=some l'→Live (st c).2 b→l.rb=l'.rb→False:=by
    intro b b' l l' g1 g2 g3 g4 g5
    obtain⟨⟨_,g6⟩,g7⟩:=pY b l g1 g2
    rcases g7 with g7 | g7
    ·have:=aBz b' l' g3;omega
    ·exact g7 ((kO (Fv b g6)).1 g4)
   cases Qo:m b1 with
   |
    some l1' =>
    cases Yv:m b2 with
    |
     some l2' =>
     have e1:l1'=l1:=by have:=hT.ext b1 l1' Qo;rw[h1] at this;injection this with this;exact this.symm
     have e2:l2'=l2:=by have:=hT.ext b2 l2' Yv;rw[h2] at this;injection this with this;exact this.symm
     subst e1 e2
     exact I.rel.inj b1 b2 _ _ GJ Qo Yv Dx Jl A2
    |
     none =>
     have e1:l1'=l1:=by have:=hT.ext b1 l1' Qo;rw[h1] at this;injection this with this;exact this.symm
     subst e1
     exact(fresh b2 b1 _ _ h2 Yv Qo Jl A2.symm).elim
   |
    none =>
    cases Yv:m b2 with
    |
     some l2' =>
     have e2:l2'=l2:=by have:=hT.ext b2 l2' Yv;rw[h2] at this;injection this with this;exact this.symm
     subst e2
     exact(fresh b1 b2 _ _ h1 Qo Yv Dx A2).elim
    |
     none =>
     have g1:=(pY b1 l1 h1 Qo).1.2
     have g2:=(pY b2 l2 h2 Yv).1.2
     exact hR.inj b1 b2 l1 l2 GJ h1 h2 ((kO (Fv b1 g1)).1 Dx) ((kO (Fv b2 g2)).1 Jl) A2
  ·intro x hx
   refine⟨(hR.Fz x hx).1,fun b l hb hm hl => ?_⟩
   obtain⟨⟨e0,fz0,q1⟩,q2⟩:=I.rel.Fz x hx
   cases Qo:m b with
   |
    some l' =>
    have e1:l'=l:=by have:=hT.ext b l' Qo;rw[hm] at this;injection this with this;exact this.symm
    subst e1
    exact q2 b l' hb Qo hl
   |
    none =>
    obtain⟨⟨_,g6⟩,g7⟩:=pY b l hm Qo
    rcases g7 with g7 | g7
    ·have:=(aKN.1 q1).1
     omega
    ·exact(g7 ((kO (Fv b g6)).1 hl)).elim
  ·refine⟨fun b l hb=>hT.ext b l (I.tr.ext b l hb),fun b l hb hn => ?_,aKF I.tr.size hT.size,fun rb A2 hk => ?_,hT.same.1.trans I.tr.same.1,hT.same.2.1.trans I.tr.same.2.1,hT.same.2.2.trans I.tr.same.2.2⟩
   ·cases hm:m b with
    |
     some l' =>
     have e1:l'=l:=by have:=hT.ext b l' hm;rw[hb] at this;injection this with this;exact this.symm
     subst e1
     exact I.tr.new b l' hm hn
    |
     none =>
     obtain⟨⟨g1,g2⟩,g3⟩:=pY b l hb hm
     refine⟨⟨by omega,by omega⟩,?_⟩
     rcases g3 with g3 | g3
     ·exact .inl (aKF I.tr.size g3)
     ·exact .inr (.inl fun hl=>g3 ((kO (Fv b g2)).1 hl))
   ·rw[tX rb (aKG A2 I.tr.size),I.tr.dB rb A2 hk]
  ·intro b l hb
   cases hm:m b with
   | some l'=>exact(I.dom b l' hm).imp id fun⟨i,h1,h2⟩=>⟨i,.inr h1,h2⟩
   | none=>exact .inr ⟨k,.inl rfl,bI,(pY b l hb hm).1⟩
 | pure=>exact UB (.inl mM)
 | look=>exact UB (.inr mM)
end
end Go.PM
namespace Go.PM
section
variable {P:Program} {E:Dc} {n:Nat} {call:iG} {lo L0:Nat}
theorem Trans.fresh {m m':dL} {H H1 H2:aI} {w w':World} (h:Trans lo m H w m' H1 w') (h1:H.length≤H1.length) (hf:∀b,H.length≤b→b<H2.length→m b=none):∀b,H1.length≤b→b<H2.length→m' b=none:=by
 intro b GJ hb2
 cases hm:m' b with
 | none=>rfl
 |
  some l =>
  exfalso
  have hn:=hf b (by omega) hb2
  have:=(h.new b l hm hn).1
  omega
structure Ky (n L0:Nat) (m:dL) (ρ:Env) (H:aI) (a:Act) (w:World):Prop where
 Jr:a.tmps.size=n
 defs:a.defers=[]
 env:∀t,RV m (ρ t) (a.tmps.getD t undef)
 rel:Rel m L0 H w
theorem Se {p q:Nat→Bool}:∀ {l:List Nat} {i:Nat},(∀x∈l,q x=true→p x=true)→i∈l→p i=true→q i=false→l.countP q<l.countP p
 |
  x::l,i,h,hi,hp,hq=>by
  rw[List.countP_cons,List.countP_cons]
  have hle:l.countP q≤l.countP p:=List.countP_mono_left fun x hx=>h x (aLd _ hx)
  rcases List.mem_cons.1 hi with rfl | hi
  ·rw[if_neg (by simp[hq]),if_pos hp];omega
  ·have:=Se (fun x hx=>h x (aLd _ hx)) hi hp hq
   have:(if q x=true then 1 else 0)≤(if p x=true then 1 else 0):=by
    by_cases hqx:q x=true
    ·rw[if_pos hqx,if_pos (h x aLe hqx)];omega
    ·rw[if_neg hqx];omega
   omega
theorem PG {listed:Array Bool} {k i:Nat} (hk:k<listed.size):(listed.setIfInBounds k true).getD i false=true↔(i=k∨listed.getD i false=true):=by
 rcases aKH i listed.size with h | h
 ·by_cases e:i=k
  ·subst e;simp[h]
  ·simp[h,e,Ne.symm e]
 ·have:i≠k:=by omega
  simp[h,this]
theorem apN {ops:Array Oper} {xF:List PI} {ps:List qK} {M:List Nat} {st:Nat→Env×aI} {m0:dL} {w0:World} (T:Text P E n ops xF ps M call lo st) (qV:AP P L0 call) (dS:L0≤lo) (Ci:L0≤(st 0).2.length)
  (DX:∀b,(st 0).2.length≤b→b<(st ops.size).2.length→m0 b=none) {Q:Exit→Act→World→Prop}
  (hQ:∀m' a' w',Ky n L0 m' (st ops.size).1 (st ops.size).2 a' w'→Trans lo m0 (st 0).2 w0 m' (st ops.size).2 w'→Q .normal a' w') :
  ∀(fuel:Nat) (listed:Array Bool) (m:dL) (c:Nat) (a:Act) (w:World),listed.size=ops.size→((aKA ops.size).countP fun i => !listed.getD i false)≤fuel →
  xA E n ops ps lo L0 st m0 w0 [] (fun i=>listed.getD i false=true) m c a w→wpAny P .any ops Q fuel listed a w:=by
 have fin:∀(listed:Array Bool) (m:dL) (c:Nat) (a:Act) (w:World),listed.size=ops.size→(Region.ready .any ops listed=[])→xA E n ops ps lo L0 st m0 w0 [] (fun i=>listed.getD i false=true) m c a w→Q .normal a w:=by
  intro listed m c a w hs hr I
  have all:∀i,i<ops.size→listed.getD i false=true:=by
   intro i
   induction i using Nat.strongRecOn with
   |
    _ i ih =>
    intro hi
    cases hl:listed.getD i false with
    | true=>rfl
    |
     false =>
     exfalso
     obtain⟨o,p,pi,ho,_,_,_,hdr,_⟩:=T.at hi
     have:i∈Region.ready .any ops listed:=by
      rw[mem_ready]
      refine⟨?_,o,ho,fun e he hb => ?_⟩
      ·have XQ:i<listed.size:=by omega
       simpa[XQ] using hl
      ·have:=hdr.back e (by simpa using he) hb
       exact ih e.on this (by omega)
     rw[hr] at this
     cases this
  have hcN:c=ops.size:=by
   rcases aKH c ops.size with h | h
   ·exact absurd (all c h) (I.atc h).1
   ·have:=I.Rm;omega
  subst hcN
  exact hQ m a w ⟨I.Jr,I.defs,fun t=>I.tm t ops.size (aKE _) fun i o hi _=>⟨fun _=>Ik hi,fun h=>all i h⟩,I.rel⟩ I.tr
 intro fuel
 induction fuel with
 |
  zero =>
  intro listed m c a w hs hc I
  have hr:Region.ready .any ops listed=[]:=by
   rw[List.eq_nil_iff_forall_not_mem]
   intro i hi
   have qQ:=mem_ready.1 hi
   obtain⟨h1,o,ho,_⟩:=qQ
   have bI:i<ops.size:=(aKN.1 ho).1
   have h0:((aKA ops.size).countP fun i => !listed.getD i false)=0:=by omega
   rw[List.countP_eq_zero] at h0
   have:=h0 i (aLf.2 bI)
   have XQ:i<listed.size:=by omega
   simp[XQ] at this h1
   rw[h1] at this
   cases this
  exact⟨hr,fin listed m c a w hs hr I⟩
 |
  succ fuel ih =>
  intro listed m c a w hs hc I
  refine⟨fun hr=>fin listed m c a w hs hr I,fun k hk => ?_⟩
  obtain⟨h1,o,ho,hb⟩:=mem_ready.1 hk
  have bI:k<ops.size:=(aKN.1 ho).1
  have hkl:k<listed.size:=by omega
  have hkf:listed.getD k false=false:=by simpa[hkl] using h1
  refine ajV T qV dS Ci DX I ho (by rw[hkf];exact fun h=>by cases h) (fun e he hbd=>hb e (by simpa using he) hbd) fun m' c' a' w' I'=>ih _ m' c' a' w' (by simpa using hs) ?_ ?_
  ·have:((aKA ops.size).countP fun i => !(listed.setIfInBounds k true).getD i false)<((aKA ops.size).countP fun i => !listed.getD i false):=by
    refine Se (i:=k) (fun x _ hx => ?_) (aLf.2 bI) (by rw[hkf];rfl) ?_
    ·cases hlx:listed.getD x false with
     | false=>rfl
     |
      true =>
      have:=(PG (i:=x) hkl).2 (.inr hlx)
      rw[this] at hx
      cases hx
    ·rw[(PG hkl).2 (.inl rfl)];rfl
   omega
  ·have e:(fun i=>(listed.setIfInBounds k true).getD i false=true)=fun i=>i=k∨listed.getD i false=true:=by
    funext i
    exact propext (PG hkl)
   rw[e]
   exact I'
theorem Rel.drew {m:dL} {H:aI} {w w':World} (h:Rel m L0 H w) (hw:w'.heap=w.heap):Rel m L0 H w':=by
 have hc:∀x,w'.cell? x=w.cell? x:=fun x=>by unfold World.cell?;rw[hw]
 refine⟨fun b l hb=>by rw[hw];exact h.valid b l hb,fun b l cs e p hm hb => ?_,h.inj,fun x hx=>⟨by rw[hw];exact(h.Fz x hx).1,(h.Fz x hx).2⟩⟩
 obtain⟨h1,h2,h3,h4⟩:=h.row b l cs e p hm hb
 refine⟨h1,h2,h3,fun i hi => ?_⟩
 rw[hc]
 exact h4 i hi
theorem XO {id:Nat} {ops:Array Oper} {draw:Bool} {xF:List PI} (FN:P.follows .mixedOrders=true) (qV:AP P L0 call) (uT:vC call) (hp:A4 P E n ops draw=some xF) {ρ aQ:Env} {H H':aI}
  (hv:jB call lo xF ρ H=some (aQ,H')) {m:dL} {a:Act} {w:World} (h:Ky n L0 m ρ H a w) (dS:L0≤lo) (hlen:L0≤H.length) (hf:∀b,H.length≤b→b<H'.length→m b=none) {Q:Exit→Act→World→Prop}
  (hQ:∀m' a' w',Ky n L0 m' aQ H' a' w'→Trans lo m H w m' H' w'→Q .normal a' w'):(Code.region id ops draw).wp P Q a w:=by
 obtain⟨ps,M,He⟩:=M0 hp
 obtain⟨st,hs0,hsn,vL⟩:=Kd hv
 have hN:xF.length=ops.size:=by rw[He.aDS];simp
 rw[hN] at hsn
 cases draw with
 |
  true =>
  have T:Text P E n ops xF ps M call lo st:=⟨He,uT,vL⟩
  apply wp_region_any FN
  have e0:(st 0).1=ρ:=by rw[hs0]
  have e1:(st 0).2=H:=by rw[hs0]
  have e2:(st ops.size).1=aQ:=by rw[hsn]
  have e3:(st ops.size).2=H':=by rw[hsn]
  obtain⟨c,hc1,hc2,hc3,hc4⟩:=It (fun i=>∃q,ps[i]? = some q∧gV E q = .write) _ 0 ops.size rfl (aK8 _)
  have QP:=T.same hc1 hc2 fun i h1 h2 q hq hw=>hc3 i h1 h2 ⟨q,hq,hw⟩
  have aAS:=T.len hc1 hc2
  have aBF:=T.len (i:=c) (j:=ops.size) hc2 (aKE _)
  have W9:=h.rel.grow (by rw[←e1];exact QP) (fun b h1 h2=>hf b h1 (by rw[←e3];omega))
  have akY:∀i,(Array.replicate ops.size false).getD i false=true→False:=by
   intro i hi
   rcases aKH i ops.size with h | h<;>simp[h] at hi
  refine apN (m0:=m) (w0:=w) T qV dS (by rw[e1];exact hlen) (by rw[e1,e3];exact hf) (by rw[e1,e2,e3];exact hQ) ops.size _ m c a _ (by simp) (aKF List.countP_le_length (by simp)) ?_
  refine⟨h.Jr,h.defs,fun i o _ hi=>(akY i hi).elim,fun t j hj hw => ?_,hc2,fun i q hi hq hw=>absurd ⟨q,hq,hw⟩ (hc3 i (aK8 _) hi),fun hc=>⟨fun h=>akY _ h,hc4 hc⟩,W9.drew rfl,?_,fun b l hb => .inl (by rw[hb];exact fun h=>by cases h)⟩
  ·have e:(st j).1 t=ρ t:=by
    rw[←e0]
    refine T.TQ (aK8 _) hj fun i oi _ vA hoi hd => ?_
    have V9:ops.toList[i]? = some oi:=by simpa using hoi
    exact(akY i ((hw i oi V9 hd).2 vA)).elim
   rw[e]
   exact h.env t
  ·rw[e1]
   refine⟨fun _ _ h=>h,fun b l hb hn=>(by rw[hb] at hn;cases hn),aKE _,fun _ _ _=>rfl,rfl,rfl,rfl⟩
 |
  false =>
  apply wp_region
  have key:∀d i,ops.size-i=d→i≤ops.size→∀m1 a1 w1,Ky n L0 m1 (st i).1 (st i).2 a1 w1→L0≤(st i).2.length→(∀b,(st i).2.length≤b→b<H'.length→m1 b=none) →
    (∀m' a' w',Ky n L0 m' aQ H' a' w'→Trans lo m1 (st i).2 w1 m' H' w'→Q .normal a' w')→wpOps P ops Q ((aKA ops.size).drop i) a1 w1:=by
   intro d
   induction d with
   |
    zero =>
    intro i hd hi m1 a1 w1 h1 _ _ hQ1
    have:i=ops.size:=by omega
    subst this
    rw[List.drop_eq_nil_of_le (by simp)]
    rw[hsn] at h1 hQ1
    exact hQ1 m1 a1 w1 h1 (Trans.refl _ _ _ _)
   |
    succ d ih =>
    intro i hd hi m1 a1 w1 h1 Dx hf1 hQ1
    have bI:i<ops.size:=by omega
    rw[List.drop_eq_getElem_cons (by simpa using bI),wpOps_cons]
    have ho:ops.toList[i]? = some ops[i]:=by simp[bI]
    obtain⟨p,pi,hp1,hp2,axA,_,hdr⟩:=He.each i _ ho
    have Cf:=vL i pi hp2
    obtain⟨v,hv1,hv2⟩:=A5 Cf
    have hq:pi.quiet=false:=(hdr rfl).1
    have hE1:=Kx uT Cf
    have hE2:Ext lo (st (i+1)).2 H':=by
     have:∀d j,ops.size-j=d→j≤ops.size→Ext lo (st j).2 H':=by
      intro d
      induction d with
      | zero =>
        intro j hd hj;have:j=ops.size:=by omega
        subst this;rw[hsn];exact Ext.refl _ _
      |
       succ d ih =>
       intro j hd hj
       have hjl:j<xF.length:=by omega
       exact(Kx uT (vL j xF[j] (aKL hjl))).trans (ih (j+1) (by omega) (by omega))
     exact this _ (i+1) rfl bI
    have Hp:(aKA ops.size)[i]'(by simpa using bI)=i:=by simp
    rw[Hp]
    refine SD (by simp[bI]) axA (fun h=>by rw[hq] at h;cases h) hv1 (fun t _=>h1.env t) h1.rel dS Dx (fun b GJ hb2=>hf1 b GJ (aKG hb2 hE2.len)) qV fun m' rv w' XF hR hT => ?_
    rw[hq] at hT
    simp only[aLg,if_false] at hT
    refine ih (i+1) (by omega) bI m' _ w' ⟨by rw[JP];exact h1.Jr,by rw[Kh];exact h1.defs,fun t => ?_,hR⟩ (aKF Dx hE1.len) (hT.fresh hE1.len hf1) fun m2 a2 w2 h2 R9=>hQ1 m2 a2 w2 h2 (Trans.trans hf1 hE1 hE2 hT R9)
    rw[hv2,axA.dst]
    cases hd:ops[i].dst with
    | none=>exact(h1.env t).mono hT.ext
    |
     some d =>
     rw[WL (by rw[h1.Jr];exact axA.bound d hd)]
     show RV m' (if t=d then v else (st i).1 t) _
     by_cases e:t=d
     ·rw[if_pos e,if_pos e];exact XF
     ·rw[if_neg e,if_neg e];exact(h1.env t).mono hT.ext
  have:=key ops.size 0 (by omega) (aK8 _) m a w (by rw[hs0];exact h) (by rw[hs0];exact hlen) (by rw[hs0];exact hf) (by rw[hs0];exact hQ)
  simpa using this
end
end Go.PM