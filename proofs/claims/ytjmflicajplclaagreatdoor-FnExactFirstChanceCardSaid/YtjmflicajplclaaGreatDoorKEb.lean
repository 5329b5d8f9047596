/- Texts of a claim, in one: part 2. -/
import Derived.LoopN
import Derived.Test.YtjmflicajplclaaGreatDoorKEa
open Array renaming getElem?_eq_none → aLS,getElem?_eq_some_iff → aLn,range → aLH,toList_inj → aLu
open Bool renaming and_eq_true → aLM,false_eq_true → aLQ,or_eq_true → aLR
open Function renaming comp_def → aLt
open List renaming all_eq_true → aLs,eq_nil_of_length_eq_zero → aLk,getD_eq_getElem?_getD → aLb,getElem?_append_left → aLv,getElem?_eq_getElem → aLl,getElem?_eq_some_iff → aLd,getElem?_set_ne → aLD,mem_cons_of_mem → aLN,mem_cons_self → aLO,mem_range → aLP,range → aLa
open Nat renaming add_mul → aLJ,le_mul_of_pos_right → aLK,le_of_lt → aLV,le_refl → aLe,le_trans → aLf,lt_of_lt_of_le → aLg,lt_or_ge → aLh,lt_trichotomy → aLU,min → aLL,mod_lt → aLG,mul_le_mul_right → aLF,zero_le → aLI
open Option renaming isSome_none → aLT
set_option linter.unusedSimpArgs false
set_option linter.unusedVariables false
namespace Go.PM
section
variable {P:Program} {m:dS} {L0:Nat} {H:aH} {w:World}
theorem RL.const {zs:List Value} (h:zs.all mU=true):RL m zs zs :=
 ⟨rfl,fun j hj=>by
  have:=RV.const (m:=m) (aLs.1 h _ (List.getElem_mem hj))
  simpa[aLb,aLl hj] using this⟩
theorem yZ (n:Nat) (zs:List Value):(dE n zs).length=n*zs.length:=by simp[dE]
theorem AG (n:Nat) {zs:List Value} (h:zs.all mU=true) (h0:1≤zs.length):RL m (dE n zs) (dE n zs):=by
 refine⟨rfl,fun i hi => ?_⟩
 rw[yZ] at hi
 have bH:i % zs.length<zs.length:=aLG _ h0
 have e:(dE n zs).getD i undef=zs.getD (i % zs.length) undef:=by simp[dE,aLb,hi]
 rw[e]
 exact(RL.const h).2 _ bH
theorem VN (n:Nat) {zs:List Value} (h:zs.all iR=true) (h0:1≤zs.length):(dE n zs).all iR=true:=by
 rw[aLs]
 intro x hx
 obtain⟨i,_,rfl⟩:=List.mem_map.1 hx
 have bH:i % zs.length<zs.length:=aLG _ h0
 have:=aLs.1 h _ (List.getElem_mem bH)
 simpa[aLb,aLl bH] using this
theorem Ms (z:Array Value) (n:Nat) (h0:1≤z.size):(madeCells z (n*z.size)).toList=dE n z.toList:=by
 apply List.ext_getElem
 ·simp[madeCells,dE]
 ·intro i h1 h2
  have bH:i % z.size<z.size:=aLG _ h0
  simp[madeCells,dE,bH]
theorem J7 (z:Array Value) (n:Nat) (h0:1≤z.size):(Builtin.zeroCells z n).toList=dE n z.toList:=by
 apply List.ext_getElem
 ·simp[Builtin.zeroCells,dE]
 ·intro i h1 h2
  have bH:i % z.size<z.size:=aLG _ h0
  simp[Builtin.zeroCells,dE,bH]
theorem ajD {t:TypeId} {agg:Bool} {size nb lo:Nat} {z:List Value} (ht:oH P t=some (agg,size,z,nb)) (K0:z.all iR=true) (Nt:z.all mU=true) (hR:Rel m L0 H w) (hf:m H.length=none) :
  cR P (do pure (.value (←Instr.alloc t true (.tuple #[])))) L0 lo m H w (.pointer (some ⟨H.length,0,none⟩)) (H++[.row z z.length false]):=by
 obtain⟨i,d,zz,hi,hd,KU,rfl,rfl,rfl,rfl⟩:=kJ ht
 have sS:(Instr.alloc t true (.tuple #[])).run P w = .ok (.pointer (some ⟨w.heap.size,0,none⟩)) (w.alloc (.cells zz.cells t)):=by
  simp[Instr.alloc,zeroValue,typeInfo,hi,KU,newVar,newRow]
 have hA:=AT hR hf (w':=w.alloc (.cells zz.cells t)) (arr:=zz.cells) (e:=t) (fz:=(0,0)) rfl ⟨rfl,rfl,rfl⟩ (cs:=aV zz) (gQ:=(aV zz).length) (T2:=false)
  (by rw[fQ];exact aLe _) (fun i hi=>by
   have:=(RL.const (m:=m) Nt).2 i hi
   rwa [←Cg,gZ]) K0 (fun j _ h=>by simp at h)
 exact cR.value sS (.ptr _ 0 _ (bZ m _ _)) hA.1 (hA.2 lo)
theorem anP {t:TypeId} {v r:Value} {lo:Nat} (hv:RV m v r) (hs:(aV v).all iR=true) (hR:Rel m L0 H w) (hf:m H.length=none) :
  cR P (do pure (.value (←Instr.box t r))) L0 lo m H w (.pointer (some ⟨H.length,0,none⟩)) (H++[.row (aV v) (aV v).length false]):=by
 have sS:(Instr.box t r).run P w = .ok (.pointer (some ⟨w.heap.size,0,none⟩)) (w.alloc (.cells r.cells t)):=by
  simp[Instr.box,newVar,newRow]
 have hA:=AT hR hf (w':=w.alloc (.cells r.cells t)) (arr:=r.cells) (e:=t) (fz:=(0,0)) rfl ⟨rfl,rfl,rfl⟩ (cs:=aV v) (gQ:=(aV v).length) (T2:=false)
  (by rw[fQ,hv.aV.1];exact aLe _) (fun i hi=>by
   have:=hv.aV.2 i hi
   rwa [←Cg,gZ]) hs (fun j _ h=>by simp at h)
 exact cR.value sS (.ptr _ 0 _ (bZ m _ _)) hA.1 (hA.2 lo)
theorem acP {t:TypeId} {agg:Bool} {size nb lo:Nat} {z:List Value} {kl kc:IntKind} {l c:Int} (ht:lT P t=some (agg,size,z,nb)) (K0:z.all iR=true) (Nt:z.all mU=true) (ZP:size=z.length) (Cz:1≤size)
  (hl:0≤l) (hlc:l≤c) (hb:c*nb≤281474976710656) (hc:c≤9223372036854775807) (hR:Rel m L0 H w) (hf:m H.length=none) :
  cR P (do pure (.value (←Instr.makeSlice t (.int kl l) (.int kc c)))) L0 lo m H w (.slice (some ⟨H.length,0,none⟩) l.toNat c.toNat) (H++[.row (dE c.toNat z) z.length false]):=by
 obtain⟨e,hu,MQ⟩:=kZ ht
 obtain⟨i,d,zz,hi,hd,KU,rfl,rfl,rfl,rfl⟩:=kJ MQ
 have sS:=run_make (P:=P) w t e i zz hu hi KU kl kc l c hl hlc (by rw[Int.mul_comm];exact hb) hc
 have EX:i.size=zz.cells.size:=by rw[ZP,fQ]
 rw[EX] at sS Cz
 have rW:(madeCells zz.cells (c.toNat*zz.cells.size)).toList=dE c.toNat (aV zz):=by rw[Ms _ _ Cz,gZ]
 have aBt:(madeCells zz.cells (c.toNat*zz.cells.size)).size=c.toNat*(aV zz).length:=by rw[size_madeCells,fQ]
 have aeA:1≤(aV zz).length:=by rw[←fQ];exact Cz
 have hA:=AT hR hf (w':=w.alloc (.cells (madeCells zz.cells (c.toNat*zz.cells.size)) e)) (arr:=madeCells zz.cells (c.toNat*zz.cells.size)) (e:=e) (fz:=(0,0)) rfl ⟨rfl,rfl,rfl⟩
  (cs:=dE c.toNat (aV zz)) (gQ:=(aV zz).length) (T2:=false) (by rw[aBt,yZ];exact aLe _) (fun j hj=>by
   have:=(AG (m:=m) c.toNat Nt aeA).2 j hj
   rwa [←Cg,rW]) (VN _ K0 aeA) (fun j _ h=>by simp at h)
 refine cR.value sS ?_ hA.1 (hA.2 lo)
 exact .slice _ 0 _ _ _ _ _ (bZ m _ _) (by omega) (aLe _) (fun _=>rfl) (.inr ⟨rfl,by simp only[aBt];omega⟩)
theorem akM {t:TypeId} {agg:Bool} {size nb lo n:Nat} {z cs:List Value} {parts:List (Nat×Operand)} {ρ:Env} {a:Act} (ht:lT P t=some (agg,size,z,nb)) (K0:z.all iR=true) (Nt:z.all mU=true) (ZP:size=z.length) (Cz:1≤size) (hn:n*size≤16777216)
  (auV:Aq ((aLa n).map fun i=>(i*z.length,z.length)) (dE n z) (parts.map fun(i,x)=>(i,ev ρ x))=some cs) (Cn:cs.all iR=true) (hr:∀p∈parts,RV m (ev ρ p.2) (a.eval p.2))
  (hR:Rel m L0 H w) (hf:m H.length=none) :
  cR P (do pure (.value (←Instr.buildSlice t n (parts.toArray.map fun(i,x)=>(i,a.eval x))))) L0 lo m H w (.slice (some ⟨H.length,0,none⟩) n n) (H++[.row cs z.length false]):=by
 obtain⟨e,hu,MQ⟩:=kZ ht
 obtain⟨i,d,zz,hi,hd,KU,rfl,rfl,rfl,rfl⟩:=kJ MQ
 have EX:i.size=zz.cells.size:=by rw[ZP,fQ]
 have aeA:1≤(aV zz).length:=by rw[←fQ,←EX];exact Cz
 have Qc:∀j q,((aLa n).map fun i=>(i*(aV zz).length,(aV zz).length))[j]? = some q→(fun i'=>some (i'*i.size,i.size):Nat→Option (Nat×Nat)) j=some q:=by
  intro j q hj
  simp only[List.getElem?_map,Option.map_eq_some_iff] at hj
  obtain⟨k,hk,rfl⟩:=hj
  have hk':=(aLd.1 hk)
  obtain⟨hk1,Gk⟩:=hk'
  simp at Gk
  subst Gk
  rw[←ZP]
 have hz:RL m (dE n (aV zz)) ((aLH (n*i.size)).map (zz.cells[· % zz.cells.size]!)).toList:=by
  have:=AG (m:=m) n Nt aeA
  rw[EX]
  have e1:=Ms zz.cells n (by rw[←EX];exact Cz)
  rw[gZ] at e1
  show RL m _ (madeCells zz.cells (n*zz.cells.size)).toList
  rw[e1]
  exact this
 obtain⟨PS,h1,h2⟩:=UC (m:=m) _ _ Qc (parts.map fun(i,x)=>(i,ev ρ x)) (parts.map fun(i,x)=>(i,a.eval x)) _ _ cs
  (by simp[aLt]) (by simpa[aLt] using RL.map (l:=parts) (f:=fun p=>ev ρ p.2) (g:=fun p=>a.eval p.2) hr) hz auV
 have hlen:cs.length=n*(aV zz).length:=by rw[Tg _ _ _ _ auV,yZ]
 have emap:(Array.map (fun x:Nat×Operand=>(x.1,a.eval x.2)) parts.toArray).toList=parts.map fun(i,x)=>(i,a.eval x):=by simp
 have Xn:¬(2^24<n*i.size):=by omega
 have sS:(Instr.buildSlice t n (parts.toArray.map fun(i,x)=>(i,a.eval x))).run P w = .ok (.slice (some ⟨w.heap.size,0,none⟩) n n) (w.alloc (.cells PS e)):=by
  have h1':Instr.fill (fun i'=>some (i'*i.size,i.size)) ((aLH (n*i.size)).map (zz.cells[· % zz.cells.size]!)) (Array.map (fun x:Nat×Operand=>(x.1,a.eval x.2)) parts.toArray).toList=some PS:=by rw[emap];exact h1
  by_cases hn0:n*i.size=0
  ·rw[hn0] at h1'
   simp only[show ∀f:Nat→Value,(aLH 0).map f = #[] from fun f=>by simp] at h1'
   unfold Instr.buildSlice
   simp only[Sem.run_bind,run_underlying hu,Result.andThen_ok,run_sizeOf e i hi,hn0,if_true,Sem.run_pure,show ¬(0>2^24) by omega,if_false]
   rw[show ∀f:Nat→Value,(aLH 0).map f = #[] from fun f=>by simp]
   simp only[h1']
   simp[newRow]
  ·unfold Instr.buildSlice
   simp only[Sem.run_bind,run_underlying hu,Result.andThen_ok,run_sizeOf e i hi,hn0,if_false,Sem.run_pure,gt_iff_lt,Xn,zeroValue,typeInfo,run_program,hi,KU]
   simp only[h1']
   simp[newRow]
 have hrs:PS.size=n*(aV zz).length:=by rw[←hlen];simpa using h2.1.symm
 have hA:=AT hR hf (w':=w.alloc (.cells PS e)) (arr:=PS) (e:=e) (fz:=(0,0)) rfl ⟨rfl,rfl,rfl⟩ (cs:=cs) (gQ:=(aV zz).length) (T2:=false)
  (by rw[hlen,hrs];exact aLe _) (fun j hj=>by rw[←Cg];exact h2.2 j hj) Cn (fun j _ h=>by simp at h)
 refine cR.value sS ?_ hA.1 (hA.2 lo)
 exact .slice _ 0 _ _ _ _ _ (bZ m _ _) (aLe _) (aLe _) (fun _=>rfl) (.inr ⟨rfl,by simp only[hrs];omega⟩)
theorem XV (g:Value→ByteArray→Sem (ForInStep ByteArray)) (hg:∀n s,g (.int .u8 n) s=pure (ForInStep.yield (s.push (UInt8.ofNat n.toNat)))):∀(cs rs:List Value) (bs:List UInt8) (acc:ByteArray),RL m cs rs→xV cs=some bs→∀w,
  (forIn rs acc g).run P w = .ok ⟨(acc.data.toList++bs).toArray⟩ w:=by
 intro cs
 induction cs with
 |
  nil =>
  intro rs bs acc hr hb w
  have e0:rs=[]:=aLk hr.1.symm
  subst e0
  cases hb
  simp
 |
  cons c cs ih =>
  intro rs bs acc hr hb w
  cases rs with
  | nil=>exact absurd hr.1 (by simp)
  |
   cons r rs =>
   obtain⟨hc,OQ⟩:=hr.lG
   unfold xV at hb
   split at hb
   ·rename_i heq;cases heq
   ·rename_i n rest heq
    cases heq
    cases hc
    cases h2:xV cs with
    | none=>rw[h2] at hb;cases hb
    |
     some bs' =>
     rw[h2] at hb
     cases hb
     simp only[List.forIn_cons,hg,Sem.run_bind,Sem.run_pure,Result.andThen_ok]
     rw[ih rs bs' _ OQ h2 w]
     simp[ByteArray.push]
   ·cases hb
theorem akK {s d e:TypeId} {rp:Value} {lo n b off c:Nat} {cs:List Value} {bs:List UInt8} (hs:P.underlying s=some (.slice e)) (hd:P.underlying d=some .string) (he:P.underlying e=some (.int .u8))
  (HS:H.read b off n=some cs) (hb:xV cs=some bs) (hR:Rel m L0 H w) (hp:RV m (.slice (some ⟨b,off,none⟩) n c) rp) :
  cR P (do pure (.value (←convert s d rp))) L0 lo m H w (.string ⟨bs.toArray⟩) H:=by
 cases hp with
 |
  slice _ _ _ _ l ra rc hm hn hc hx ha =>
  obtain⟨rs,h1,h2,_,h3⟩:=Bw hR hm HS
  have aBV:(loadCells ra n).run P w = .ok rs.toArray w:=by
   rcases ha with ha | ⟨rfl,ha⟩
   ·have h0:n=0:=by omega
    subst h0
    have e0:rs=[]:=aLk h2
    subst e0
    rfl
   ·rw[←h2]
    exact run_loadCells_list w _ rs h3
  refine cR.value (rv := .string ⟨bs.toArray⟩) (w':=w) (m':=m) ?_ (.str _) hR (Trans.refl lo m H w)
  simp only[convert,Sem.run_bind,run_underlying hs,run_underlying hd,Result.andThen_ok,run_underlying he,Conv.bytesToString,aBV,←Array.forIn_toList]
  rw[XV (P:=P) (m:=m) _ (fun n s=>rfl) cs rs bs ByteArray.empty h1 hb w]
  simp
theorem Q8 {t e:TypeId} {i:TypeInfo} (hu:P.underlying t=some (.slice e)) (hi:P.info? e=some i) {a:Option Addr} {n c:Nat} {lo qK mx:Option Value} {l h k:Nat}
  (hb:(Instr.sliceBounds true n c lo qK mx).run P w = .ok (l,h,k) w) :
  (Instr.sliceAt t (.slice a n c) lo qK mx).run P w = .ok (.slice (if k=l then a else a.map (·.add (l*i.size))) (h-l) (k-l)) w:=by
 have h1:(Instr.sliceAt t (.slice a n c) lo qK mx).run P w=(Instr.slice t (.slice a n c) lo qK mx).run P w:=by
  unfold Instr.sliceAt
  rw[Sem.run_bind,run_underlying hu,Result.andThen_ok]
 rw[h1]
 unfold Instr.slice
 rw[Sem.run_bind,run_underlying hu,Result.andThen_ok]
 simp[hb,run_sizeOf e i hi]
theorem ahJ {t e:TypeId} {i:TypeInfo} {lo:Nat} {x rx v:Value} {l h mx l' h' mx':Option Value} {H':aH} (hu:P.underlying t=some (.slice e)) (hi:P.info? e=some i)
  (hs:E1 i.size x l h mx H=some (v,H')) (hx:RV m x rx) (hl:RO m l l') (hh:RO m h h') (hm:RO m mx mx') (hR:Rel m L0 H w) (hf:∀b,H.length≤b→b<H'.length→m b=none) :
  cR P (do pure (.value (←Instr.sliceAt t rx l' h' mx'))) L0 lo m H w v H':=by
 unfold E1 at hs
 split at hs
 ·rename_i n c
  split at hs
  ·rename_i h0
   obtain⟨rfl,rfl⟩:=h0
   cases hx
   split at hs
   ·cases hs
   ·rename_i M hM
    split at hs
    ·cases hs
    ·rename_i hb hhb
     split at hs
     ·cases hs
     ·rename_i lb HB
      cases hs
      have key:∃k1 k2 k3,(Instr.sliceBounds true 0 0 l' h' mx').run P w = .ok (k1,k2,k3) w∧k1=0∧k2=0∧k3=0:=by
       rcases rO (P:=P) hM hm with⟨rfl,rfl,e1⟩ | ⟨_,r1,rfl,rfl,q1,e1⟩<;>rcases rO (P:=P) hhb hh with⟨_,rfl,e2⟩ | ⟨_,r2,_,rfl,q2,e2⟩<;>rcases rO (P:=P) HB hl with⟨_,rfl,e3⟩ | ⟨_,r3,_,rfl,q3,e3⟩
       ·cases e1;cases e2;cases e3
        exact⟨0,0,0,rfl,rfl,rfl,rfl⟩
       ·cases e1;cases e2
        exact⟨lb,0,0,by simp[Instr.sliceBounds,e3 0 (aLe _)],by omega,rfl,rfl⟩
       ·cases e1;cases e3
        exact⟨0,hb,0,by simp[Instr.sliceBounds,e2 0 (aLe _)],rfl,by omega,rfl⟩
       ·cases e1
        exact⟨lb,hb,0,by simp[Instr.sliceBounds,e2 0 (aLe _),e3 hb (aLe _)],by omega,by omega,rfl⟩
       ·cases e2
       ·cases e2
       ·cases e3
        exact⟨0,hb,M,by simp[Instr.sliceBounds,e1 0 (aLe _),e2 M (aLe _)],rfl,by omega,by omega⟩
       ·exact⟨lb,hb,M,by simp[Instr.sliceBounds,e1 0 (aLe _),e2 M (aLe _),e3 hb (aLe _)],by omega,by omega,by omega⟩
      obtain⟨k1,k2,k3,hk,rfl,rfl,rfl⟩:=key
      exact cR.value (Q8 hu hi hk) (by simpa using RV.M5) hR (Trans.refl lo m H w)
  ·cases hs
 ·rename_i b o n c
  cases hx with
  |
   slice _ _ _ _ lc ra rc YM hnc hcr hxp ha =>
   split at hs
   ·rename_i cells es p hbk
    obtain⟨g1,g2,g3,g4⟩:=hR.row b lc cells es p YM hbk
    split at hs
    ·rename_i Qt
     subst Qt
     split at hs
     ·cases hs
     ·rename_i M hM
      split at hs
      ·cases hs
      ·rename_i hb hhb
       split at hs
       ·cases hs
       ·rename_i lb HB
        have key:∃k3,(Instr.sliceBounds true n rc l' h' mx').run P w = .ok (lb,hb,k3) w∧lb≤hb∧hb≤M∧M≤c∧((mx=none∧k3=rc∧M=c)∨(mx.isSome=true∧k3=M)):=by
         rcases rO (P:=P) hM hm with⟨rfl,rfl,e1⟩ | ⟨_,r1,rfl,rfl,q1,e1⟩<;>rcases rO (P:=P) hhb hh with⟨_,rfl,e2⟩ | ⟨_,r2,_,rfl,q2,e2⟩<;>rcases rO (P:=P) HB hl with⟨_,rfl,e3⟩ | ⟨_,r3,_,rfl,q3,e3⟩
         ·cases e1;cases e2;cases e3
          exact⟨rc,rfl,aLI _,hnc,aLe _,.inl ⟨rfl,rfl,rfl⟩⟩
         ·cases e1;cases e2
          exact⟨rc,by simp[Instr.sliceBounds,e3 n (aLe _)],q3,hnc,aLe _,.inl ⟨rfl,rfl,rfl⟩⟩
         ·cases e1;cases e3
          exact⟨rc,by simp[Instr.sliceBounds,e2 rc hcr],aLI _,q2,aLe _,.inl ⟨rfl,rfl,rfl⟩⟩
         ·cases e1
          exact⟨rc,by simp[Instr.sliceBounds,e2 rc hcr,e3 hb (aLe _)],q3,q2,aLe _,.inl ⟨rfl,rfl,rfl⟩⟩
         ·cases e2
         ·cases e2
         ·cases e3
          exact⟨M,by simp[Instr.sliceBounds,e1 rc hcr,e2 M (aLe _)],aLI _,q2,q1,.inr ⟨rfl,rfl⟩⟩
         ·exact⟨M,by simp[Instr.sliceBounds,e1 rc hcr,e2 M (aLe _),e3 hb (aLe _)],q3,q2,q1,.inr ⟨rfl,rfl⟩⟩
        obtain⟨k3,hk,hlh,hhM,hMc,Pk⟩:=key
        have sS:=Q8 (a:=some ra) hu hi hk
        have place:k3-lb=0∨((if k3=lb then some ra else (some ra).map (·.add (lb*i.size)))=some (⟨lc.rb,lc.base+(o+lb*i.size),none⟩:Addr)∧lc.base+(o+lb*i.size)+(k3-lb)*lc.gQ≤lc.Tf):=by
         by_cases hz:k3-lb=0
         ·exact .inl hz
         ·right
          have hk3:k3≤rc:=by rcases Pk with⟨_,rfl,_⟩ | ⟨_,rfl⟩<;>omega
          rcases ha with ha | ⟨rfl,ha⟩
          ·omega
          ·rw[if_neg (by omega)]
           refine⟨by simp[Addr.add_lit,Nat.add_assoc],?_⟩
           rw[g1] at ha ⊢
           have e1:(k3-lb)*i.size=k3*i.size-lb*i.size:=Nat.sub_mul _ _ _
           have e2:lb*i.size≤k3*i.size:=aLF _ (by omega)
           have e3:k3*i.size≤rc*i.size:=aLF _ hk3
           omega
        obtain⟨ra',aBn⟩:∃ra',(if k3=lb then some ra else (some ra).map (·.add (lb*i.size)))=some ra':=by split<;>exact⟨_,rfl⟩
        rw[aBn] at sS
        have awQ:k3-lb=0∨(ra'=⟨lc.rb,lc.base+(o+lb*i.size),none⟩∧lc.base+(o+lb*i.size)+(k3-lb)*lc.gQ≤lc.Tf):=by
         rcases place with hp | ⟨Xj,hp2⟩
         ·exact .inl hp
         ·rw[aBn] at Xj
          exact .inr ⟨by injection Xj,hp2⟩
        split at hs
        ·rename_i aEM
         cases hs
         obtain⟨aCs,hMl⟩:=aEM
         rcases Pk with⟨rfl,_⟩ | ⟨_,rfl⟩
         ·cases aCs
         ·have hA:=acU hR (hf H.length (aLe _) (by simp)) YM i.size
          refine cR.value (rv := .slice (some ra') 0 0) (by rw[sS];congr 2<;>omega) ?_ hA.1 (hA.2 lo)
          exact .slice _ 0 0 0 _ _ 0 (bZ m _ _) (aLe _) (aLe _) (fun _=>rfl) (.inl rfl)
        ·cases hs
         refine cR.value sS ?_ hR (Trans.refl lo m H w)
         refine .slice b _ _ _ lc _ _ YM (by omega) ?_ ?_ awQ
         ·rcases Pk with⟨_,rfl,rfl⟩ | ⟨_,rfl⟩<;>omega
         ·intro ho
          have:=hxp ho
          rcases Pk with⟨_,rfl,rfl⟩ | ⟨_,rfl⟩<;>omega
    ·cases hs
   ·cases hs
 ·cases hs
end
end Go.PM
namespace Go.PM
section
variable {P:Program} {m:dS} {L0:Nat} {H:aH} {w:World}
theorem YC {t:TypeId} {i:TypeInfo} {lo b o:Nat} {v r rp:Value} {H':aH} (hi:P.info? t=some i) (hp:RV m (.pointer (some ⟨b,o,none⟩)) rp) (hv:RV m v r) (hs:(aV v).length=i.size)
  (hw:H.write lo b o (aV v)=some H') (hR:Rel m L0 H w) (eT:L0≤lo) :
  cR P (do Instr.storeAt t rp r;pure .skip) L0 lo m H w undef H':=by
 cases hp with
 |
  ptr _ _ l hm =>
  obtain⟨w',s1,s2,s3⟩:=GM P hR eT hm hw hv.aV
  refine⟨undef,w',m,.inr ⟨?_,rfl⟩,RV.undef m,s2,s3⟩
  have EX:r.cells.size=i.size:=by rw[fQ,←hv.aV.1,hs]
  have h1:(Instr.storeAt t (.pointer (some ⟨l.rb,l.base+o,none⟩)) r).run P w = .ok () w':=by
   show (storeVar t ⟨l.rb,l.base+o,none⟩ r).run P w=_
   unfold storeVar
   simp only[Sem.run_bind,run_sizeOf t i hi,Result.andThen_ok,EX,ne_eq,not_true_eq_false,if_false,gZ]
   exact s1
  rw[Sem.run_bind,h1]
  rfl
theorem LW {pv rv:Value} {k:Nat} (h:xG pv=some k) (hr:RV m pv rv):Builtin.lenOf rv=pure k:=by
 unfold xG at h
 split at h
 ·cases h;cases hr<;>rfl
 ·cases h;cases hr;rfl
 ·cases h
theorem EC (a b:Array Value) (xs:List Value) (h:a.toList=xs) (i:Nat) (hi:i<xs.length):(a++b).getD i undef=xs.getD i undef:=by
 subst h
 have:i<a.size:=by simpa using hi
 simp[Array.getD_eq_getD_getElem?,Array.getElem?_append_left this,aLb]
theorem ahY {t u ty:TypeId} {agg:Bool} {size bytes lo k:Nat} {z:List Value} {d:TypeDesc} {x y rx ry v:Value} {new:List Value} {H':aH} (ht:lT P t=some (agg,size,z,bytes)) (hu:P.underlying u=some d) (hd:Od d=true)
  (hk:xG y=some k) (DG:kU H size k y=some new) (xP:fK lo size bytes x k new H=some (v,H')) (hx:RV m x rx) (hy:RV m y ry) (ZP:size=z.length)
  (hR:Rel m L0 H w) (eT:L0≤lo) (hf:∀b,H.length≤b→b<H'.length→m b=none) :
  cR P (do pure (.value (←Builtin.append_ #[t,u] ty #[rx,ry]))) L0 lo m H w v H':=by
 obtain⟨e,MQ,Sv⟩:=kZ ht
 obtain⟨i,de,zz,hi,_,KU,rfl,rfl,rfl,rfl⟩:=kJ Sv
 obtain⟨tP,h1,h2,h3⟩:=Mm DG hk (aLe _) hR hy
 have hl:=LW hk hy
 have Dh:1≤i.bytes:=by
  unfold fK at xP
  split at xP
  ·rename_i h;exact h.1
  ·cases xP
 have hnl:new.length=k*i.size:=by
  unfold fK at xP
  split at xP
  ·rename_i h;exact h.2.2.2
  ·cases xP
 obtain⟨rv,w',m',g1,g2,g3,g4⟩:=MK (P:=P) (s:=Builtin.append_ #[t,u] ty #[rx,ry]) (e:=e) xP hR eT hx h1 hf
  (fun a n c w' FF EI xI=>by
   subst FF
   exact TQ MQ hu hd hi hl (h3 w rfl) EI xI)
  (fun FF hk0=>by
   subst FF
   subst hk0
   exact WI MQ hu hd hi hl (h3 w rfl))
  (fun base n c EZ FF hfo hJ hg hb=>by
   subst FF
   refine⟨grownCap w (n+k) c e,_,grownCap_ge w _ _ _,TR MQ hu hd hi KU hl hfo (h3 w.drew rfl) hg Dh hb,?_,?_⟩
   ·have G0:=grownCap_ge w (n+k) c e
    have B7:tP.length=k*i.size:=by rw[←h1.1,hnl]
    simp only[Array.size_append,List.size_toArray,size_zeroCells,hJ,B7]
    rw[←fQ] at ZP
    rw[←ZP,←aLJ,←aLJ]
    congr 1
    omega
   ·intro j hj
    exact EC _ _ _ (by simp) j hj)
 exact cR.value g1 g2 g3 g4
section
variable {t u ty e:TypeId} {ku:IntKind} {i:TypeInfo} {zz:Value} {k:Nat}
theorem IY {k:Nat} (h:k≤140737488355328):IntKind.i64.wrap (k:Int)=(k:Int):=by rw[IntKind.wrap_i64];omega
theorem QE (ht:P.underlying t=some (.slice e)) (hu:P.underlying u=some (.int ku)) (hi:P.info? e=some i) (KU:i.zero=some zz) (hk:k≤140737488355328) (Fm:k*i.bytes≤140737488355328)
  {a:Addr} {n c:Nat} {w':World} (EI:n+k≤c) (hz:k*i.size=0→Builtin.zeroCells zz.cells k = #[]) (xI:(storeCells (a.add (n*i.size)) (Builtin.zeroCells zz.cells k).toList).run P w = .ok () w') :
  (Builtin.append_ #[t,u] ty #[.slice (some a) n c,.int .i64 k]).run P w = .ok (.slice (some a) (n+k) c) w':=by
 have h0:¬((k:Int)<0):=by omega
 have hb:¬(281474976710656<(k:Int)*(i.bytes:Int)):=by rw[←Int.natCast_mul];omega
 by_cases Cz:k*i.size=0
 ·rw[hz Cz] at xI
  simp[Builtin.append_,run_underlying ht,run_underlying hu,run_sizeOf e i hi,asInt,asIntOf,IY hk,typeInfo,hi,h0,hb,EI,Cz,xI]
 ·simp[Builtin.append_,run_underlying ht,run_underlying hu,run_sizeOf e i hi,asInt,asIntOf,IY hk,typeInfo,hi,h0,hb,EI,Cz,zeroValue,KU,xI]
theorem Tu (ht:P.underlying t=some (.slice e)) (hu:P.underlying u=some (.int ku)) (hi:P.info? e=some i) :
  (Builtin.append_ #[t,u] ty #[.slice none 0 0,.int .i64 (0:Nat)]).run P w = .ok (.slice none 0 0) w:=by
 have hw:IntKind.i64.wrap 0=0:=rfl
 simp[Builtin.append_,run_underlying ht,run_underlying hu,run_sizeOf e i hi,asInt,asIntOf,hw,typeInfo,hi]
theorem Qs (ht:P.underlying t=some (.slice e)) (hu:P.underlying u=some (.int ku)) (hi:P.info? e=some i) (KU:i.zero=some zz) (hk:k≤140737488355328) (Fm:k*i.bytes≤140737488355328)
  {base:Option Addr} {n c:Nat} {EZ:List Value} (hfo:(Builtin.firstCells i.size n (.slice base n c)).run P w.drew = .ok EZ.toArray w.drew) (hz:k*i.size=0→Builtin.zeroCells zz.cells k = #[])
  (hg:c<n+k) (Dh:1≤i.bytes) (N7:(n+k)*i.bytes≤140737488355328) :
  (Builtin.append_ #[t,u] ty #[.slice base n c,.int .i64 k]).run P w = .ok (.slice (some ⟨w.heap.size,0,none⟩) (n+k) (grownCap w (n+k) c e))
   (w.drew.alloc (.cells (EZ.toArray++Builtin.zeroCells zz.cells k++Builtin.zeroCells zz.cells (grownCap w (n+k) c e-(n+k))) e)):=by
 have Bn:=growslice_fits (bytes:=i.bytes) hg N7
 have h0:¬((k:Int)<0):=by omega
 have hb:¬(281474976710656<(k:Int)*(i.bytes:Int)):=by rw[←Int.natCast_mul];omega
 have h1:¬(n+k≤c):=by omega
 have h2:¬(281474976710656<Builtin.nextslicecap (n+k) c*i.bytes):=by omega
 have h4:n+k≤140737488355328:=aLf (aLK _ Dh) N7
 have h3:¬(9223372036854775807<(n:Int)+(k:Int)):=by omega
 by_cases Cz:k*i.size=0
 ·have e0:=hz Cz
  simp[Builtin.append_,run_underlying ht,run_underlying hu,run_sizeOf e i hi,asInt,asIntOf,IY hk,typeInfo,hi,h0,hb,h1,h2,h3,e0,zeroValue,KU,Question.forced,hfo,newRow,grownCap]
 ·simp[Builtin.append_,run_underlying ht,run_underlying hu,run_sizeOf e i hi,asInt,asIntOf,IY hk,typeInfo,hi,h0,hb,h1,h2,h3,Cz,zeroValue,KU,Question.forced,hfo,newRow,grownCap]
end
theorem afF {t u ty:TypeId} {agg:Bool} {size bytes lo:Nat} {z:List Value} {ku:IntKind} {n:Int} {x rx v:Value} {H':aH} (ht:lT P t=some (agg,size,z,bytes)) (hu:P.underlying u=some (.int ku))
  (hn:0≤n∧n*bytes≤140737488355328) (xP:fK lo z.length bytes x n.toNat (dE n.toNat z) H=some (v,H')) (hx:RV m x rx) (ZP:size=z.length) (K0:z.all iR=true) (Nt:z.all mU=true) (Cz:1≤z.length)
  (hR:Rel m L0 H w) (eT:L0≤lo) (hf:∀b,H.length≤b→b<H'.length→m b=none) :
  cR P (do pure (.value (←Builtin.append_ #[t,u] ty #[rx,.int .i64 n]))) L0 lo m H w v H':=by
 obtain⟨e,MQ,Sv⟩:=kZ ht
 obtain⟨i,de,zz,hi,_,KU,rfl,rfl,rfl,rfl⟩:=kJ Sv
 obtain⟨k,rfl⟩:=Int.eq_ofNat_of_zero_le hn.1
 simp only[Int.toNat_natCast] at xP
 have Dh:1≤i.bytes:=by
  unfold fK at xP
  split at xP
  ·rename_i h;exact h.1
  ·cases xP
 have Fm:k*i.bytes≤140737488355328:=by have:=hn.2;omega
 have hk:k≤140737488355328:=aLf (aLK _ Dh) Fm
 have EX:i.size=zz.cells.size:=by rw[ZP,fQ]
 have aeA:1≤zz.cells.size:=by rw[fQ];exact Cz
 have qB:(Builtin.zeroCells zz.cells k).toList=dE k (aV zz):=by rw[J7 _ _ aeA,gZ]
 have aCM:k*i.size=0→Builtin.zeroCells zz.cells k = #[]:=by
  intro h0
  apply Array.ext'
  rw[qB]
  exact aLk (by rw[yZ,←ZP];exact h0)
 obtain⟨rv,w',m',g1,g2,g3,g4⟩:=MK (P:=P) (s:=Builtin.append_ #[t,u] ty #[rx,.int .i64 k]) (e:=e) (tP:=dE k (aV zz)) xP hR eT hx (AG k Nt Cz) hf
  (fun a n c w' FF EI xI=>by
   subst FF
   exact QE MQ hu hi KU hk Fm EI aCM (by rw[qB,ZP];exact xI))
  (fun FF hk0=>by
   subst FF
   subst hk0
   exact Tu MQ hu hi)
  (fun base n c EZ FF hfo hJ hg hb=>by
   subst FF
   refine⟨grownCap w (n+k) c e,_,grownCap_ge w _ _ _,Qs MQ hu hi KU hk Fm (by rw[ZP];exact hfo) aCM hg Dh hb,?_,?_⟩
   ·have G0:=grownCap_ge w (n+k) c e
    simp only[Array.size_append,List.size_toArray,size_zeroCells,hJ,fQ]
    rw[←aLJ,←aLJ]
    congr 1
    omega
   ·intro j hj
    exact EC _ _ _ (by simp[qB]) j hj)
 exact cR.value g1 g2 g3 g4
theorem acY {t ty:TypeId} {ts:List TypeId} {agg:Bool} {size bytes lo b o d c k:Nat} {z new:List Value} {y rx ry:Value} {H':aH} (ht:lT P t=some (agg,size,z,bytes))
  (hk:xG y=some k) (DG:kU H size (aLL k d) y=some new) (hw:H.write lo b o new=some H') (hx:RV m (.slice (some ⟨b,o,none⟩) d c) rx) (hy:RV m y ry)
  (hR:Rel m L0 H w) (eT:L0≤lo) :
  cR P (do pure (.value (←Builtin.copy_ (t::ts).toArray ty #[rx,ry]))) L0 lo m H w (.int .i64 (aLL k d)) H':=by
 obtain⟨e,MQ,Sv⟩:=kZ ht
 obtain⟨i,de,zz,hi,_,KU,rfl,rfl,rfl,rfl⟩:=kJ Sv
 obtain⟨tP,h1,h2,h3⟩:=Mm (P:=P) DG hk (Nat.min_le_left _ _) hR hy
 have hl:=LW hk hy
 cases hx with
 |
  slice _ _ _ _ l ra rc hm hn hc hxp ha =>
  rcases ha with ha | ⟨rfl,ha⟩
  ·have FO:d=0:=by omega
   subst FO
   have asH:aLL k 0=0:=Nat.min_zero k
   rw[asH] at DG h3 ⊢
   have qB:new=[]:=by
    have:tP.length=new.length:=h1.1.symm
    unfold kU at DG
    split at DG
    ·obtain⟨_,_,_,_,_,_,hlen⟩:=Ru DG
     exact aLk (by simpa using hlen)
    ·split at DG
     ·cases DG;rfl
     ·cases DG
    ·split at DG
     ·cases DG;simp
     ·cases DG
    ·cases DG
   subst qB
   have hrn:tP=[]:=aLk h1.1.symm
   subst hrn
   have hHH:H'=H:=by
    obtain⟨cs,e',p',q1,q2,q3,q4,rfl⟩:=DR hw
    apply List.ext_getElem?
    intro j
    by_cases hj:b=j
    ·subst hj
     rw[List.getElem?_set_self (aLd.1 q1).1,q1]
     simp[kI]
    ·rw[aLD hj]
   rw[hHH]
   refine cR.value (rv := .int .i64 0) (w':=w) ?_ (.int _ _) hR (Trans.refl lo m _ w)
   have hf0:=h3 w rfl
   simp[Builtin.copy_,run_underlying MQ,hl,run_sizeOf e i hi,goInt,hf0,storeCells]
  ·obtain⟨w',s1,s2,s3⟩:=GM P hR eT hm hw h1
   refine cR.value (rv := .int .i64 (aLL k d)) ?_ (.int _ _) s2 s3
   have hf0:=h3 w rfl
   unfold Builtin.copy_
   simp only[List.getElem?_toArray,List.getElem?_cons_zero,List.getElem?_cons_succ,Sem.run_bind,run_underlying MQ,Result.andThen_ok,hl,Sem.run_pure,run_sizeOf e i hi]
   rw[hf0]
   simp only[Result.andThen_ok,s1,goInt]
theorem XR {t ty e:TypeId} {ts:List TypeId} {i:TypeInfo} {zz:Value} {lo b o n c:Nat} {rx:Value} {H':aH} (MQ:P.underlying t=some (.slice e)) (hi:P.info? e=some i) (KU:i.zero=some zz)
  (hn0:n≠0) (hw:H.write lo b o (dE n (aV zz))=some H') (hx:RV m (.slice (some ⟨b,o,none⟩) n c) rx) (Nt:(aV zz).all mU=true) (Cz:1≤(aV zz).length) (hR:Rel m L0 H w) (eT:L0≤lo) :
  cR P (do pure (.value (←Builtin.clear_ (t::ts).toArray ty #[rx]))) L0 lo m H w undef H':=by
 cases hx with
 |
  slice _ _ _ _ l ra rc hm hn hc hxp ha =>
  rcases ha with ha | ⟨rfl,ha⟩
  ·omega
  ·obtain⟨w',s1,s2,s3⟩:=GM P hR eT hm hw (AG n Nt Cz)
   have qB:(Builtin.zeroCells zz.cells n).toList=dE n (aV zz):=by rw[J7 _ _ (by rw[fQ];exact Cz),gZ]
   refine cR.value (rv:=undef) ?_ (RV.undef m) s2 s3
   rw[←qB] at s1
   obtain⟨n',rfl⟩:∃n',n=n'+1:=⟨n-1,by omega⟩
   simp[Builtin.clear_,run_underlying MQ,zeroValue,typeInfo,hi,KU,s1,undef]
theorem Mi {t ty e:TypeId} {ts:List TypeId} {lo c:Nat} {a:Option Addr} {rx:Value} (MQ:P.underlying t=some (.slice e)) (hx:RV m (.slice a 0 c) rx) (hR:Rel m L0 H w) :
  cR P (do pure (.value (←Builtin.clear_ (t::ts).toArray ty #[rx]))) L0 lo m H w undef H:=by
 refine cR.value (rv:=undef) (w':=w) ?_ (RV.undef m) hR (Trans.refl lo m _ w)
 cases hx<;>simp[Builtin.clear_,run_underlying MQ,undef]
end
end Go.PM
namespace Go.PM
section
variable {P:Program} {m:dS} {L0:Nat} {H:aH} {w:World}
theorem Fu {po:qN} {ρ:Env} {v:Value} {H':aH} (h:(kA po ρ).map (Out.val · H)=some (.val v H')):kA po ρ=some v∧H'=H:=by
 cases hp:kA po ρ with
 | none=>rw[hp] at h;cases h
 | some u=>rw[hp] at h;cases h;exact⟨rfl,rfl⟩
def yJ:qN→Bool
 | .load .. | .sub .. | .b2s _ | .new _ | .box _ | .make .. | .lit .. | .call .. | .store .. | .app .. | .appz .. | .copy .. | .clear .. | .callv .. => false
 | _=>true
theorem A7 {lo:Nat} {po:qN} {ρ:Env} (h:yJ po=true):pop lo po ρ H=(kA po ρ).map (.val · H):=by
 cases po<;>first | rfl | cases h
theorem Vi {pv rv:Value} {k:Nat} (size:Nat) (h:xG pv=some k) (hr:RV m pv rv):(Builtin.firstCells size 0 rv).run P w = .ok #[] w:=by
 unfold xG at h
 split at h
 ·cases hr
  ·rfl
  ·simp only[Builtin.firstCells,Nat.zero_mul]
   rfl
 ·cases hr
  simp[Builtin.firstCells]
 ·cases h
theorem aaS {o:Oper} {po:qN} {ρ:Env} {a:Act} {lo:Nat} {v:Value} {H':aH} (hp:tG P o.op=some po) (hv:pop lo po ρ H=some (.val v H')) (hr:∀x∈o.op.operands,RV m (ev ρ x) (a.eval x))
  (hR:Rel m L0 H w) (eT:L0≤lo) (hf:∀b,H.length≤b→b<H'.length→m b=none):cR P (execOp a.eval o) L0 lo m H w v H':=by
 by_cases kL:yJ po=true
 ·rw[A7 kL] at hv
  obtain⟨h1,rfl⟩:=Fu hv
  obtain⟨rv,h2,h3⟩:=alO hp h1 hr
  exact⟨rv,w,m,.inl (h3 w),h2,hR,Trans.refl lo m _ w⟩
 obtain⟨dst,op,type,pos,after,guard⟩:=o
 unfold tG at hp
 simp only at hp hr ⊢
 split at hp
 case isFalse=>cases hp
 cases op with
 | move x=>cases hp;exact absurd rfl kL
 | assign x=>cases hp;exact absurd rfl kL
 | pick c x y=>cases hp;exact absurd rfl kL
 |
  binOp op t x y yt =>
  unfold D4 at hp
  simp only at hp
  split at hp
  ·cases hp;exact absurd rfl kL
  ·cases hp;exact absurd rfl kL
  ·split at hp<;>first | (cases hp;done) | (cases hp;exact absurd rfl kL)
  ·split at hp<;>first | (cases hp;done) | (split at hp<;>first | (cases hp;done) | (cases hp;exact absurd rfl kL))
  ·split at hp<;>first | (cases hp;done) | (cases hp;exact absurd rfl kL)
  ·cases hp
 | unOp op t x=>cases hp;exact absurd rfl kL
 | extract x i=>cases hp;exact absurd rfl kL
 |
  convert s d x =>
  have hx:=hr x (by simp[Op.operands])
  simp only at hp
  split at hp
  ·cases hp;exact absurd rfl kL
  ·cases hp;exact absurd rfl kL
  ·rename_i e hs hd
   split at hp
   ·rename_i he
    cases hp
    simp only[pop] at hv
    split at hv
    ·rename_i n c Rc
     cases hv
     rw[Rc] at hx
     show cR P (do pure (.value (←convert s d (a.eval x)))) L0 lo m H w _ H
     generalize a.eval x=rx at hx ⊢
     cases hx
     refine cR.value (rv := .string ByteArray.empty) ?_ (.str _) hR (Trans.refl lo m _ w)
     simp[convert,run_underlying hs,run_underlying hd,run_underlying he,Conv.bytesToString]
    ·rename_i b o n c Rc
     split at hv
     ·rename_i cs OQ
      cases hb:xV cs with
      | none=>rw[hb] at hv;cases hv
      |
       some bs =>
       rw[hb] at hv
       cases hv
       rw[Rc] at hx
       exact akK hs hd he OQ hb hR hx
     ·cases hv
    ·cases hv
   ·cases hp
  ·cases hp
 |
  field t x i =>
  simp only at hp
  split at hp
  ·split at hp
   ·rename_i f hf'
    cases ht:oH P f.type with
    | none=>rw[ht] at hp;cases hp
    | some q=>rw[ht] at hp;cases hp;exact absurd rfl kL
   ·cases hp
  ·cases hp
 |
  build t parts =>
  simp only at hp
  split at hp
  ·split at hp
   ·split at hp
    ·cases hp;exact absurd rfl kL
    ·cases hp
   ·cases hp
  ·cases hp
 | nilCheck x=>cases hp;exact absurd rfl kL
 |
  fieldAddr t x i =>
  simp only at hp
  split at hp
  ·split at hp
   ·split at hp
    ·split at hp
     ·cases hp
     ·cases hp;exact absurd rfl kL
    ·cases hp
   ·cases hp
  ·cases hp
 |
  indexAddr t x i =>
  simp only at hp
  cases ht:lT P t with
  | none=>rw[ht] at hp;cases hp
  | some q=>rw[ht] at hp;cases hp;exact absurd rfl kL
 |
  index t x i =>
  simp only at hp
  split at hp
  ·cases hp;exact absurd rfl kL
  ·cases hp
 |
  slice t x fV hi mx =>
  have hx:=hr x (by simp[Op.operands])
  simp only at hp
  split at hp
  ·split at hp
   ·cases hp;exact absurd rfl kL
   ·cases hp
  ·rename_i e hu
   cases ht:oH P e with
   | none=>rw[ht] at hp;cases hp
   |
    some q =>
    obtain⟨agg,size,z,nb⟩:=q
    rw[ht] at hp
    cases hp
    obtain⟨i,d,zz,qK,_,_,rfl,rfl,rfl,rfl⟩:=kJ ht
    simp only[pop] at hv
    cases hs:E1 i.size (ev ρ x) (fV.map (ev ρ)) (hi.map (ev ρ)) (mx.map (ev ρ)) H with
    | none=>rw[hs] at hv;cases hv
    |
     some q =>
     obtain⟨u,H1⟩:=q
     rw[hs] at hv
     cases hv
     exact ahJ hu qK hs hx (RO.map fun y hy=>hr y (by simp[Op.operands,hy])) (RO.map fun y hy=>hr y (by simp[Op.operands,hy])) (RO.map fun y hy=>hr y (by simp[Op.operands,hy])) hR hf
  ·cases hp
 |
  makeFunc fn first gU =>
  cases fn with
  |
   func f =>
   simp only at hp
   split at hp
   ·cases hp;exact absurd rfl kL
   ·cases hp
  | _=>cases hp
 | makeInterface t x=>cases hp;exact absurd rfl kL
 | panic x=>cases hp;exact absurd rfl kL
 |
  load t p =>
  have hx:=hr p (by simp[Op.operands])
  simp only at hp
  cases ht:oH P t with
  | none=>rw[ht] at hp;cases hp
  |
   some q =>
   obtain⟨agg,size,z,nb⟩:=q
   rw[ht] at hp
   cases hp
   simp only[pop] at hv
   cases hl:rB agg size (ev ρ p) H with
   | none=>rw[hl] at hv;cases hv
   |
    some u =>
    rw[hl] at hv
    cases hv
    obtain⟨rv,h1,h2⟩:=Ri ht hl hR hx
    exact cR.value h2 h1 hR (Trans.refl lo m _ w)
 |
  store t p x =>
  have hpp:=hr p (by simp[Op.operands])
  have hx:=hr x (by simp[Op.operands])
  simp only at hp
  cases ht:P.info? t with
  | none=>rw[ht] at hp;cases hp
  |
   some i =>
   rw[ht] at hp
   cases hp
   simp only[pop] at hv
   split at hv
   ·rename_i b o hpo
    split at hv
    ·rename_i hs
     cases hw:H.write lo b o (aV (ev ρ x)) with
     | none=>rw[hw] at hv;cases hv
     |
      some H1 =>
      rw[hw] at hv
      cases hv
      rw[hpo] at hpp
      exact YC ht hpp hx hs hw hR eT
    ·cases hv
   ·cases hv
 |
  alloc t =>
  simp only at hp
  split at hp
  ·rename_i agg size z nb ht
   split at hp
   ·rename_i hz
    cases hp
    simp only[aLM] at hz
    cases hv
    exact ajD ht hz.1 hz.2 hR (hf _ (aLe _) (by simp))
   ·cases hp
  ·cases hp
 |
  box t x =>
  have hx:=hr x (by simp[Op.operands])
  cases hp
  simp only[pop] at hv
  split at hv
  ·rename_i hs
   cases hv
   exact anP hx hs hR (hf _ (aLe _) (by simp))
  ·cases hv
 |
  makeSlice t l c =>
  have hl:=hr l (by simp[Op.operands])
  have hc:=hr c (by simp[Op.operands])
  simp only at hp
  split at hp
  ·rename_i agg size z nb ht
   split at hp
   ·rename_i hz
    cases hp
    simp only[aLM,beq_iff_eq,decide_eq_true_eq] at hz
    obtain⟨⟨⟨z1,z2⟩,z3⟩,z4⟩:=hz
    simp only[pop] at hv
    split at hv
    ·rename_i l' c' FA W8
     split at hv
     ·rename_i hb
      cases hv
      rw[FA] at hl
      rw[W8] at hc
      show cR P (do pure (.value (←Instr.makeSlice t (a.eval l) (a.eval c)))) L0 lo m H w _ _
      generalize a.eval l=rl at hl ⊢
      generalize a.eval c=rc at hc ⊢
      cases hl
      cases hc
      exact acP ht z1 z2 z3 z4 hb.1 hb.2.1 hb.2.2.1 hb.2.2.2 hR (hf _ (aLe _) (by simp))
     ·cases hv
    ·cases hv
   ·cases hp
  ·cases hp
 |
  buildSlice t n parts =>
  simp only at hp
  split at hp
  ·rename_i agg size z nb ht
   split at hp
   ·rename_i hz
    cases hp
    simp only[aLM,beq_iff_eq,decide_eq_true_eq] at hz
    obtain⟨⟨⟨⟨z1,z2⟩,z3⟩,z4⟩,z5⟩:=hz
    simp only[pop] at hv
    split at hv
    ·rename_i cs OQ
     split at hv
     ·rename_i Cn
      cases hv
      have:=akM (P:=P) (w:=w) (lo:=lo) (a:=a) ht z1 z2 z3 z4 z5 OQ Cn (fun p hpm=>hr p.2 (by simp only[Op.operands];simp;exact⟨p.1,by simpa using hpm⟩)) hR (hf _ (aLe _) (by simp))
      rw[Array.toArray_toList] at this
      exact this
     ·cases hv
    ·cases hv
   ·cases hp
  ·cases hp
 |
  call c =>
  obtain⟨callee,args,ts⟩:=c
  cases callee with
  |
   builtin b =>
   have W9:∀x∈args,RV m (ev ρ x) (a.eval x):=fun x hx=>hr x (by simpa[Op.operands,Call.operands] using hx)
   simp only at hp
   unfold sG at hp
   split at hp
   ·split at hp<;>first | (cases hp;done) | (cases hp;exact absurd rfl kL)
   ·split at hp<;>first | (cases hp;done) | (cases hp;exact absurd rfl kL)
   ·cases hp;exact absurd rfl kL
   ·cases hp;exact absurd rfl kL
   ·rename_i x y t u E6 AY hts _
    have ea:args = #[x,y]:=aLu.1 (by simpa using AY)
    subst ea
    have hx:=W9 x (by simp)
    have hy:=W9 y (by simp)
    have aFt:∃tr,ts=(t::u::tr).toArray:=⟨E6,aLu.1 (by simpa using hts)⟩
    obtain⟨tr,rfl⟩:=aFt
    show cR P (do pure (.value (←Builtin.append_ (t::u::tr).toArray type ((#[x,y]:Array Operand).map a.eval)))) L0 lo m H w v H'
    rw[NJ]
    have aDP:∀r1 r2,Builtin.append_ (t::u::tr).toArray type #[r1,r2]=Builtin.append_ #[t,u] type #[r1,r2]:=fun r1 r2=>by simp[Builtin.append_]
    rw[aDP]
    split at hp
    ·rename_i agg size zero bytes ku ht hu
     split at hp
     ·rename_i hz
      cases hp
      simp only[aLM,beq_iff_eq,decide_eq_true_eq] at hz
      obtain⟨⟨⟨z1,z2⟩,z3⟩,z4⟩:=hz
      simp only[pop] at hv
      split at hv
      ·rename_i n hn
       split at hv
       ·rename_i hb
        cases xP:fK lo zero.length bytes (ev ρ x) n.toNat (dE n.toNat zero) H with
        | none=>rw[xP] at hv;cases hv
        |
         some q =>
         obtain⟨u',H1⟩:=q
         rw[xP] at hv
         cases hv
         rw[hn] at hy
         generalize a.eval y=ry at hy ⊢
         cases hy
         exact afF ht hu hb xP hx z4 z1 z2 z3 hR eT hf
       ·cases hv
      ·cases hv
     ·cases hp
    ·rename_i agg size zero bytes d _ ht hu
     split at hp
     ·rename_i hd
      split at hp
      ·rename_i ZP
       cases hp
       simp only[pop] at hv
       split at hv
       ·rename_i k hk
        split at hv
        ·rename_i new qB
         cases xP:fK lo size bytes (ev ρ x) k new H with
         | none=>rw[xP] at hv;cases hv
         |
          some q =>
          obtain⟨u',H1⟩:=q
          rw[xP] at hv
          cases hv
          exact ahY ht hu hd hk qB xP hx hy (by simpa using ZP) hR eT hf
        ·cases hv
       ·cases hv
      ·cases hp
     ·cases hp
    ·cases hp
   ·rename_i x y t E6 AY hts _
    have ea:args = #[x,y]:=aLu.1 (by simpa using AY)
    have et:ts=(t::E6).toArray:=aLu.1 (by simpa using hts)
    subst ea;subst et
    have hx:=W9 x (by simp)
    have hy:=W9 y (by simp)
    show cR P (do pure (.value (←Builtin.copy_ (t::E6).toArray type ((#[x,y]:Array Operand).map a.eval)))) L0 lo m H w v H'
    rw[NJ]
    split at hp
    ·rename_i agg size zero bytes ht
     cases hp
     simp only[pop] at hv
     split at hv
     ·rename_i n c k Rc hk
      cases hv
      rw[Rc] at hx
      generalize a.eval x=rx at hx ⊢
      cases hx
      obtain⟨e,MQ,Sv⟩:=kZ ht
      obtain⟨i,de,zz,hi,_,KU,_,_,_,_⟩:=kJ Sv
      refine cR.value (rv := .int .i64 0) (w':=w) ?_ (.int _ _) hR (Trans.refl lo m _ w)
      have hl:=LW hk hy
      have hf0:=Vi (P:=P) (w:=w) i.size hk hy
      simp[Builtin.copy_,run_underlying MQ,hl,run_sizeOf e i hi,goInt,hf0]
     ·rename_i b o d c k Rc hk
      split at hv
      ·rename_i new qB
       cases hw:H.write lo b o new with
       | none=>rw[hw] at hv;cases hv
       |
        some H1 =>
        rw[hw] at hv
        cases hv
        rw[Rc] at hx
        exact acY ht hk qB hw hx hy hR eT
      ·cases hv
     ·cases hv
    ·cases hp
   ·rename_i x t E6 AY hts _
    have ea:args = #[x]:=aLu.1 (by simpa using AY)
    have et:ts=(t::E6).toArray:=aLu.1 (by simpa using hts)
    subst ea;subst et
    have hx:=W9 x (by simp)
    show cR P (do pure (.value (←Builtin.clear_ (t::E6).toArray type ((#[x]:Array Operand).map a.eval)))) L0 lo m H w v H'
    rw[Ty]
    split at hp
    ·rename_i agg size zero bytes ht
     split at hp
     ·rename_i hz
      cases hp
      simp only[aLM,beq_iff_eq,decide_eq_true_eq] at hz
      obtain⟨⟨⟨z1,z2⟩,z3⟩,z4⟩:=hz
      obtain⟨e,MQ,Sv⟩:=kZ ht
      obtain⟨i,de,zz,hi,_,KU,rfl,rfl,rfl,rfl⟩:=kJ Sv
      simp only[pop] at hv
      split at hv
      ·rename_i n c Rc
       cases hv
       rw[Rc] at hx
       generalize a.eval x=rx at hx ⊢
       cases hx
       exact Mi MQ .M5 hR
      ·rename_i b o n c Rc
       rw[Rc] at hx
       split at hv
       ·rename_i hn0
        cases hv
        subst hn0
        exact Mi MQ hx hR
       ·rename_i hn0
        cases hw:H.write lo b o (dE n (aV zz)) with
        | none=>rw[hw] at hv;cases hv
        |
         some H1 =>
         rw[hw] at hv
         cases hv
         exact XR MQ hi KU hn0 hw hx z2 z4 hR eT
      ·cases hv
     ·cases hp
    ·cases hp
   ·cases hp
  |
   value f =>
   cases f with
   | func g=>cases hp;cases hv
   |
    tmp t =>
    cases hp
    simp only[pop] at hv
    split at hv<;>cases hv
   | const c=>cases hp
   | global g=>cases hp
  | invoke r s=>cases hp
 | _=>cases hp
def Pa (P:Program) (f:Nat):Prop:=∃fn,P.funcs[f]? = some fn∧(fn.name == "runtime.NumGoroutine")=false∧fn.body.isNone=false
theorem Jm {f:Nat} {args:Array Value} (h:Pa P f):(callFunc f args).run P w = .ok (.enter f args) w:=by
 obtain⟨fn,h1,h2,h3⟩:=h
 unfold callFunc
 rw[Sem.run_bind,run_program,Result.andThen_ok,h1]
 simp[h2,h3]
theorem map_none {α β:Type} {o:Option α} {f:α→β} {x:β} (h:o.map f=some x) (hf:∀y,f y≠x):False:=by
 cases o with
 | none=>cases h
 | some y=>injection h with h;exact hf y h
theorem acE {op:Op} {g:Nat} {as:List Operand} (h:tG P op=some (.call g as)):∃args ts,op = .call ⟨.value (.func g),args,ts⟩∧as=args.toList:=by
 unfold tG at h
 split at h
 case isFalse=>cases h
 cases op with
 |
  call c =>
  obtain⟨callee,args,ts⟩:=c
  cases callee with
  |
   builtin b =>
   exfalso
   simp only[sG] at h
   repeat' (split at h)
   all_goals cases h
  |
   value f =>
   cases f with
   | func g'=>cases h;exact⟨args,ts,rfl,rfl⟩
   | _=>cases h
  | invoke r s=>cases h
 |
  _ =>
  exfalso
  dsimp only at h
  try unfold D4 at h
  repeat' (split at h)
  all_goals first
   | contradiction
   | (cases h;done)
   | exact map_none h (by intro y h;cases h)
theorem Y3 {op:Op} {fv:Operand} {as:List Operand} (h:tG P op=some (.callv fv as)):∃args ts,op = .call ⟨.value fv,args,ts⟩∧as=args.toList:=by
 unfold tG at h
 split at h
 case isFalse=>cases h
 cases op with
 |
  call c =>
  obtain⟨callee,args,ts⟩:=c
  cases callee with
  |
   builtin b =>
   exfalso
   simp only[sG] at h
   repeat' (split at h)
   all_goals cases h
  |
   value f =>
   cases f with
   | tmp g'=>cases h;exact⟨args,ts,rfl,rfl⟩
   | _=>cases h
  | invoke r s=>cases h
 |
  _ =>
  exfalso
  dsimp only at h
  try unfold D4 at h
  repeat' (split at h)
  all_goals first
   | contradiction
   | (cases h;done)
   | exact map_none h (by intro y h;cases h)
theorem vZ {po:qN} {ρ:Env} {lo f:Nat} {args:List Value} (hv:pop lo po ρ H=some (.call f args)):(∃g as,po = .call g as)∨(∃g as,po = .callv g as):=by
 by_cases kL:yJ po=true
 ·rw[A7 kL] at hv
  cases hpp:kA po ρ with
  | none=>rw[hpp] at hv;cases hv
  | some u=>rw[hpp] at hv;cases hv
 cases po<;>first | exact absurd rfl kL | exact .inl ⟨_,_,rfl⟩ | exact .inr ⟨_,_,rfl⟩ | skip
 all_goals
  exfalso
  simp only[pop] at hv
  repeat' (split at hv)
  all_goals first
   | (cases hv;done)
   | (revert hv;generalize aH.write _ _ _ _ _=q;cases q<;>intro hv<;>cases hv)
   | (revert hv;generalize rB _ _ _ _=q;cases q<;>intro hv<;>cases hv)
   | (revert hv;generalize E1 _ _ _ _ _ _=q;cases q<;>intro hv<;>cases hv)
   | (revert hv;generalize fK _ _ _ _ _ _ _=q;cases q<;>intro hv<;>cases hv)
   | (revert hv;generalize xV _=q;cases q<;>intro hv<;>cases hv)
theorem afU {o:Oper} {po:qN} {ρ:Env} {a:Act} {lo f:Nat} {args:List Value} (hp:tG P o.op=some po) (hv:pop lo po ρ H=some (.call f args)) (hr:∀x∈o.op.operands,RV m (ev ρ x) (a.eval x)) :
  ∃iW,RL m args iW∧(Pa P f→∀w,(execOp a.eval o).run P w = .ok (.enter f iW.toArray) w):=by
 have key:=vZ hv
 obtain⟨dst,op,type,pos,after,guard⟩:=o
 simp only at hp hr ⊢
 rcases key with⟨g,as,rfl⟩ | ⟨g,as,rfl⟩
 ·obtain⟨Ey,ts,rfl,rfl⟩:=acE hp
  cases hv
  refine⟨Ey.toList.map a.eval,RL.map fun x hx=>hr x (by simp[Op.operands,Call.operands];right;simpa using hx),fun hc w => ?_⟩
  have e1:(Ey.toList.map a.eval).toArray=Ey.map a.eval:=aLu.1 (by rw[Array.toList_map])
  rw[e1]
  have e2:execOp a.eval ⟨dst,.call ⟨.value (.func f),Ey,ts⟩,type,pos,after,guard⟩=callFunc f ((#[]++Ey.map a.eval) ++ #[]):=rfl
  rw[e2,Jm hc]
  simp
 ·obtain⟨Ey,ts,rfl,rfl⟩:=Y3 hp
  have hg:=hr g (by simp[Op.operands,Call.operands])
  simp only[pop] at hv
  split at hv
  ·rename_i f' first gU hfv
   cases hv
   rw[hfv] at hg
   generalize hrg:a.eval g=rg at hg
   cases hg with
   |
    func fn f1 g1 c1 d1 h1 h2 h3 h4 =>
    refine⟨g1.toList++Ey.toList.map a.eval++d1.toList,((RL.arr h1 h2).append (RL.map fun x hx=>hr x (by simp[Op.operands,Call.operands];right;simpa using hx))).append (RL.arr h3 h4),fun hc w => ?_⟩
    have e1:(g1.toList++Ey.toList.map a.eval++d1.toList).toArray=(g1++Ey.map a.eval)++d1:=by
     apply Array.ext'
     simp
    rw[e1]
    have e2:(execOp a.eval ⟨dst,.call ⟨.value g,Ey,ts⟩,type,pos,after,guard⟩)=(do let d ←Deferred.ofValue (a.eval g) (Ey.map a.eval);invoke d.target d.args):=rfl
    rw[e2,hrg]
    show (callFunc f ((g1++Ey.map a.eval)++d1)).run P w=_
    exact Jm hc
  ·cases hv
end
end Go.PM
namespace Go.PM
section
variable {H:aH}
theorem adK {lo:Nat} {H':aH} (h:Ext H.length H H'):Ext lo H H' :=
 ⟨h.len,fun b _ hl=>h.low b hl hl,h.liv⟩
theorem Mb {lo size bytes add:Nat} {x v:Value} {new:List Value} {H':aH} (h:fK lo size bytes x add new H=some (v,H')):Ext lo H H':=by
 unfold fK at h
 split at h
 case isFalse=>cases h
 split at h
 ·split at h
  ·split at h
   ·cases h;exact Ext.refl _ _
   ·split at h
    ·cases h;exact sM _ _ _
    ·cases h
  ·cases h
 ·split at h
  ·split at h
   ·split at h
    ·split at h
     ·cases h;exact Ext.refl _ _
     ·cases hw:aH.write H lo _ _ new with
      | none=>rw[hw] at h;cases h
      | some H1=>rw[hw] at h;cases h;exact Gw hw
    ·split at h
     ·split at h
      ·split at h
       ·rename_i HB
        cases h
        exact agE HB
       ·cases h
      ·cases h;exact sM _ _ _
     ·cases h
   ·cases h
  ·cases h
 ·cases h
theorem akC {lo size:Nat} {x v:Value} {l h' mx:Option Value} {H':aH} (h:E1 size x l h' mx H=some (v,H')):Ext lo H H':=by
 unfold E1 at h
 repeat' (split at h)
 all_goals first
  | (cases h;done)
  | (cases h;exact Ext.refl _ _)
  | (cases h;exact sM _ _ _)
theorem aaN {lo:Nat} {po:qN} {ρ:Env} {v:Value} {H':aH} (h:pop lo po ρ H=some (.val v H')):Ext lo H H':=by
 by_cases kL:yJ po=true
 ·rw[A7 kL] at h
  obtain⟨_,rfl⟩:=Fu h
  exact Ext.refl _ _
 cases po<;>first | exact absurd rfl kL | skip
 case load agg size p =>
  simp only[pop] at h
  cases hl:rB agg size (ev ρ p) H with
  | none=>rw[hl] at h;cases h
  | some u=>rw[hl] at h;cases h;exact Ext.refl _ _
 case sub size x l hh mx =>
  simp only[pop] at h
  cases hs:E1 size (ev ρ x) (l.map (ev ρ)) (hh.map (ev ρ)) (mx.map (ev ρ)) H with
  | none=>rw[hs] at h;cases h
  |
   some q =>
   obtain⟨u,H1⟩:=q
   rw[hs] at h;cases h;exact akC hs
 case b2s x =>
  simp only[pop] at h
  split at h
  ·cases h;exact Ext.refl _ _
  ·split at h
   ·rename_i cs _
    cases hb:xV cs with
    | none=>rw[hb] at h;cases h
    | some bs=>rw[hb] at h;cases h;exact Ext.refl _ _
   ·cases h
  ·cases h
 case new z=>cases h;exact sM _ _ _
 case box x =>
  simp only[pop] at h
  split at h
  ·cases h;exact sM _ _ _
  ·cases h
 case make z b l c =>
  simp only[pop] at h
  split at h
  ·split at h
   ·cases h;exact sM _ _ _
   ·cases h
  ·cases h
 case lit z n parts =>
  simp only[pop] at h
  split at h
  ·split at h
   ·cases h;exact sM _ _ _
   ·cases h
  ·cases h
 case call f args=>cases h
 case callv f args =>
  simp only[pop] at h
  split at h<;>cases h
 case store size p x =>
  simp only[pop] at h
  split at h
  ·rename_i b o _
   split at h
   ·cases hw:H.write lo b o (aV (ev ρ x)) with
    | none=>rw[hw] at h;cases h
    | some H1=>rw[hw] at h;cases h;exact Gw hw
   ·cases h
  ·cases h
 case app size bytes x y =>
  simp only[pop] at h
  split at h
  ·rename_i n _
   split at h
   ·rename_i new _
    cases ha:fK lo size bytes (ev ρ x) n new H with
    | none=>rw[ha] at h;cases h
    |
     some q =>
     obtain⟨u,H1⟩:=q
     rw[ha] at h;cases h;exact Mb ha
   ·cases h
  ·cases h
 case appz z bytes x n =>
  simp only[pop] at h
  split at h
  ·rename_i k _
   split at h
   ·cases ha:fK lo z.length bytes (ev ρ x) k.toNat (dE k.toNat z) H with
    | none=>rw[ha] at h;cases h
    |
     some q =>
     obtain⟨u,H1⟩:=q
     rw[ha] at h;cases h;exact Mb ha
   ·cases h
  ·cases h
 case copy size x y =>
  simp only[pop] at h
  split at h
  ·cases h;exact Ext.refl _ _
  ·rename_i b o d _ s _ _
   split at h
   ·rename_i new _
    cases hw:H.write lo b o new with
    | none=>rw[hw] at h;cases h
    | some H1=>rw[hw] at h;cases h;exact Gw hw
   ·cases h
  ·cases h
 case clear z x =>
  simp only[pop] at h
  split at h
  ·cases h;exact Ext.refl _ _
  ·rename_i b o n _ _
   split at h
   ·cases h;exact Ext.refl _ _
   ·cases hw:H.write lo b o (dE n z) with
    | none=>rw[hw] at h;cases h
    | some H1=>rw[hw] at h;cases h;exact Gw hw
  ·cases h
def vJ (call:iB):Prop:=∀f args lo H v H',call f args lo H=some (v,H')→Ext lo H H'
theorem Po {call:iB} (hc:vJ call) {lo:Nat} {i:PI} {ρ:Env} {v:Value} {H':aH} (h:BZ call lo i ρ H=some (v,H')):Ext lo H H':=by
 unfold BZ at h
 split at h
 ·cases h
 ·cases h;exact Ext.refl _ _
 ·split at h
  ·split at h
   ·rename_i hp
    cases h
    exact aaN hp
   ·rename_i f args _
    have:=hc _ _ _ _ _ _ h
    split at this
    ·exact adK this
    ·exact this
   ·cases h
  ·cases h
theorem BH {call:iB} {lo:Nat} {i:PI} {ρ aP:Env} {H':aH} (h:Bz call lo i ρ H=some (aP,H')):∃v,BZ call lo i ρ H=some (v,H')∧aP=put ρ i.dst v:=by
 unfold Bz at h
 split at h
 ·rename_i v H1 hv
  cases h
  exact⟨v,hv,rfl⟩
 ·cases h
theorem KH {call:iB} (hc:vJ call) {lo:Nat} {i:PI} {ρ aP:Env} {H':aH} (h:Bz call lo i ρ H=some (aP,H')):Ext lo H H':=by
 obtain⟨v,h1,_⟩:=BH h
 exact Po hc h1
theorem OY {call:iB} (hc:vJ call) {lo:Nat}:∀(is:List PI) {ρ aP:Env} {H H':aH},jB call lo is ρ H=some (aP,H')→Ext lo H H'
 | [],ρ,aP,H,H',h=>by cases h;exact Ext.refl _ _
 |
  i::is,ρ,aP,H,H',h=>by
  rw[jB] at h
  split at h
  ·rename_i h1
   exact(KH hc h1).trans (OY hc is h)
  ·cases h
theorem LP {lo:Nat} {body:Env→aH→Option (Ex×Env×aH)} (hb:∀ρ H x aP H',body ρ H=some (x,aP,H')→Ext lo H H'):∀(n:Nat) {ρ aP:Env} {H H':aH} {x:Ex},BB body n ρ H=some (x,aP,H')→Ext lo H H'
 | 0,_,_,_,_,_,h=>by cases h
 |
  n+1,ρ,aP,H,H',x,h=>by
  rw[BB] at h
  split at h
  ·rename_i h1
   exact(hb _ _ _ _ _ h1).trans (LP hb n h)
  ·exact hb _ _ _ _ _ h
theorem lD {call:iB} (hc:vJ call) {lo n:Nat}:∀(c:aE) {ρ aP:Env} {H H':aH} {x:Ex},dU call lo n c ρ H=some (x,aP,H')→Ext lo H H'
 | .skip,_,_,_,_,_,h=>by cases h;exact Ext.refl _ _
 |
  .cT ops,ρ,aP,H,H',x,h=>by
  rw[dU] at h
  cases hp:jB call lo ops ρ H with
  | none=>rw[hp] at h;cases h
  |
   some q =>
   obtain⟨AN,H1⟩:=q
   rw[hp] at h;cases h
   exact OY hc ops hp
 |
  .seq a b,ρ,aP,H,H',x,h=>by
  rw[dU] at h
  split at h
  ·rename_i h1
   exact(lD hc a h1).trans (lD hc b h)
  ·exact lD hc a h
 |
  .cond c a b,ρ,aP,H,H',x,h=>by
  rw[dU] at h
  split at h
  ·split at h
   ·exact lD hc a h
   ·exact lD hc b h
  ·cases h
 |
  .block id a,ρ,aP,H,H',x,h=>by
  rw[dU] at h
  split at h
  ·rename_i h1
   split at h<;>(cases h;exact lD hc a h1)
  ·exact lD hc a h
 |
  .loop a,ρ,aP,H,H',x,h=>by
  rw[dU] at h
  exact LP (fun ρ H x aP H' h=>lD hc a h) n h
 | .exit id,_,_,_,_,_,h=>by cases h;exact Ext.refl _ _
 | .ret,_,_,_,_,_,h=>by cases h;exact Ext.refl _ _
theorem GV (E:Dj) (T:Tab):∀n,vJ (oL E T n)
 | 0=>fun _ _ _ _ _ _ h=>by cases h
 |
  n+1=>fun f args lo H v H' h=>by
  rw[oL] at h
  split at h
  ·rename_i p _
   cases hp:p args H with
   | none=>rw[hp] at h;cases h
   | some u=>rw[hp] at h;cases h;exact Ext.refl _ _
  ·split at h
   ·cases h
   ·rename_i pf _
    split at h
    ·split at h
     ·rename_i AN H1 h1
      cases hr:uK pf.res AN H1 with
      | none=>rw[hr] at h;cases h
      | some u=>rw[hr] at h;cases h;exact lD (GV E T n) _ h1
     ·rename_i AN H1 h1
      cases hr:uK pf.res AN H1 with
      | none=>rw[hr] at h;cases h
      | some u=>rw[hr] at h;cases h;exact lD (GV E T n) _ h1
     ·cases h
    ·cases h
end
end Go.PM
namespace Go.PM
theorem Gd {α β:Type} {f:α→Option β}:∀ {l:List α} {ys:List β},l.mapM f=some ys→ys.length=l.length∧∀i (h:i<l.length),f l[i]=ys[i]?
 |
  [],ys,h=>by
  simp at h
  subst h
  exact⟨rfl,fun i h=>absurd h (by simp)⟩
 |
  x::l,ys,h=>by
  simp only[List.mapM_cons,Option.pure_def,Option.bind_eq_bind] at h
  cases h1:f x with
  | none=>rw[h1] at h;cases h
  |
   some y =>
   rw[h1] at h
   cases h2:l.mapM f with
   | none=>rw[h2] at h;cases h
   |
    some zs =>
    rw[h2] at h
    cases h
    obtain⟨k1,k2⟩:=Gd h2
    refine⟨by simp[k1],fun i hi => ?_⟩
    cases i with
    | zero=>simpa using h1
    | succ i=>simpa using k2 i (by simpa using hi)
theorem Ux {α β:Type} {f:α→Option β} {l:List α} {ys:List β} (h:l.mapM f=some ys) {i:Nat} {x:α} (hx:l[i]? = some x):∃y,ys[i]? = some y∧f x=some y:=by
 obtain⟨h1,h2⟩:=Gd h
 obtain⟨bH,rfl⟩:=aLd.1 hx
 have Om:i<ys.length:=by omega
 refine⟨ys[i],aLl Om,?_⟩
 rw[h2 i bH,aLl Om]
def Hh (E:Dj) (ops:List Oper) (M:List Nat) (i j:Nat) (pi pj:qN) (l:List (Operand×Operand)):Prop :=
 match gW E pi,gW E pj with
 | .look,.write | .write,.look=>ahead M i j=true∨∃a b,HO pi=some a∧HO pj=some b∧GH ops i j a=true∧(a,b)∈l
 | .write,.write | .quiet,.write | .write,.quiet=>ahead M i j=true
 | _,_=>True
theorem Hh.mono {E:Dj} {ops:List Oper} {M:List Nat} {i j:Nat} {pi pj:qN} {l l':List (Operand×Operand)} (h:Hh E ops M i j pi pj l) (hl:∀x∈l,x∈l'):Hh E ops M i j pi pj l':=by
 unfold Hh at h ⊢
 split at h
 all_goals first
  | exact h
  | exact h.imp id fun⟨a,b,h1,h2,h3,h4⟩=>⟨a,b,h1,h2,h3,hl _ h4⟩
theorem OM {E:Dj} {ops:List Oper} {ps:List qN} {M:List Nat} {j:Nat} {pj:qN} {l:List (Operand×Operand)} (h:conflicts E ops ps M j pj=some l) :
  ∀i,i<j→∀pi,ps[i]? = some pi→Hh E ops M i j pi pj l:=by
 have key:∀(is:List Nat) (l:List (Operand×Operand)),(is.foldr (fun i acc=>match acc,ps[i]? with
  |
   some l,some pi =>
   match gW E pi,gW E pj with
   |
    .look,.write | .write,.look =>
    if ahead M i j then some l
    else match HO pi,HO pj with
     | some a,some b=>if GH ops i j a then some ((a,b)::l) else none
     | _,_=>none
   | .write,.write | .quiet,.write | .write,.quiet=>if ahead M i j then some l else none
   | _,_=>some l
  | _,_=>none) (some []))=some l→∀i∈is,∀pi,ps[i]? = some pi→Hh E ops M i j pi pj l:=by
  intro is
  induction is with
  | nil=>intro l _ i hi;cases hi
  |
   cons i0 is ih =>
   intro l h i hi pi hpi
   rw[List.foldr_cons] at h
   revert h
   generalize aD3:is.foldr _ (some [])=acc
   intro h
   cases acc with
   | none=>cases h
   |
    some l0 =>
    have ih':=ih l0 aD3
    cases hp0:ps[i0]? with
    | none=>rw[hp0] at h;cases h
    |
     some p0 =>
     rw[hp0] at h
     simp only at h
     have step:(∀x∈l0,x∈l)∧Hh E ops M i0 j p0 pj l:=by
      unfold Hh
      split at h
      ·rename_i c1 c2
       try rw[c1,c2]
       split at h
       ·rename_i ha;cases h;exact⟨fun x hx=>hx,.inl ha⟩
       ·split at h
        ·rename_i a b ta tb
         split at h
         ·rename_i hu;cases h;exact⟨fun x hx=>aLN _ hx,.inr ⟨a,b,ta,tb,hu,aLO⟩⟩
         ·cases h
        ·cases h
      ·rename_i c1 c2
       try rw[c1,c2]
       split at h
       ·rename_i ha;cases h;exact⟨fun x hx=>hx,.inl ha⟩
       ·split at h
        ·rename_i a b ta tb
         split at h
         ·rename_i hu;cases h;exact⟨fun x hx=>aLN _ hx,.inr ⟨a,b,ta,tb,hu,aLO⟩⟩
         ·cases h
        ·cases h
      ·rename_i c1 c2
       try rw[c1,c2]
       split at h
       ·rename_i ha;cases h;exact⟨fun x hx=>hx,ha⟩
       ·cases h
      ·rename_i c1 c2
       try rw[c1,c2]
       split at h
       ·rename_i ha;cases h;exact⟨fun x hx=>hx,ha⟩
       ·cases h
      ·rename_i c1 c2
       try rw[c1,c2]
       split at h
       ·rename_i ha;cases h;exact⟨fun x hx=>hx,ha⟩
       ·cases h
      ·cases h
       refine⟨fun x hx=>hx,?_⟩
       first | trivial | (split<;>first | trivial | (simp_all;done)) | (simp_all;done)
     rcases List.mem_cons.1 hi with rfl | hi
     ·rw[hp0] at hpi
      cases hpi
      exact step.2
     ·exact(ih' i hi pi hpi).mono step.1
 exact fun i hi pi hpi=>key _ l h i (aLP.2 hi) pi hpi
structure aiV (P:Program) (E:Dj) (n:Nat) (ops:List Oper) (i:Nat) (o:Oper) (p:qN) (pi:PI):Prop where
 aeK:tG P o.op=some p
 dst:pi.dst=o.dst
 op:pi.op=p
 guard:guardOf ops i o=some pi.g
 bound:∀d,o.dst=some d→d<n
structure SI (E:Dj) (ops:List Oper) (ps:List qN) (M:List Nat) (i:Nat) (o:Oper) (p:qN) (pi:PI):Prop where
 back:∀e∈o.after.toList,Region.binds .any e=true→e.on<i
 guard:∀j w,o.guard=some (j,w)→(M.getD i 0).testBit j=true
 QZ:∀t∈o.dst.toList++Ax ops o,∀k ok,ops[k]? = some ok→ok.dst=some t→k=i∨ahead M i k=true
 mask:M.getD i 0=AM o M
 quiet:pi.quiet=(match gW E p with | .quiet=>true | _=>false)
 aCZ:∀k,k<i→∀pk,ps[k]? = some pk→Hh E ops M k i pk p pi.cf
theorem WE {P:Program} {E:Dj} {n:Nat} {ops:List Oper} {ps:List qN} {M:List Nat} {draw:Bool} {i:Nat} {pi:PI} (h:XY E ops ps M n draw i=some pi) {o:Oper} {p:qN} (ho:ops[i]? = some o) (hp:ps[i]? = some p)
  (abN:tG P o.op=some p):aiV P E n ops i o p pi∧(draw=true→SI E ops ps M i o p pi)∧(draw=false→pi.quiet=false∧pi.cf=[]):=by
 unfold XY at h
 rw[ho,hp] at h
 simp only at h
 split at h
 case isFalse=>cases h
 rename_i hb
 have hbound:∀d,o.dst=some d→d<n:=by
  intro d hd
  rw[hd] at hb
  simpa[auU] using hb
 split at h
 ·cases h
 ·rename_i g hg
  cases draw with
  |
   false =>
   simp only[aLQ,if_false] at h
   cases h
   exact⟨⟨abN,rfl,rfl,hg,hbound⟩,(fun h=>by cases h),fun _=>⟨rfl,rfl⟩⟩
  |
   true =>
   simp only[if_true] at h
   split at h
   case isFalse=>cases h
   rename_i hc
   simp only[aLM,beq_iff_eq] at hc
   obtain⟨⟨⟨c1,c2⟩,c3⟩,c4⟩:=hc
   cases TU:conflicts E ops ps M i p with
   | none=>rw[TU] at h;cases h
   |
    some cf =>
    rw[TU] at h
    cases h
    refine⟨⟨abN,rfl,rfl,hg,hbound⟩,fun _=>⟨fun e he hbd => ?_,fun j w hj => ?_,fun t ht k ok hk hkd => ?_,c4,rfl,OM TU⟩,(fun h=>by cases h)⟩
    ·have:=aLs.1 c1 e he
     simpa[hbd] using this
    ·rw[hj] at c2
     exact c2
    ·have h1:=aLs.1 c3 t ht
     have hk':k<ops.length:=(aLd.1 hk).1
     have h2:=aLs.1 h1 k (aLP.2 hk')
     rw[hk] at h2
     simp only[aLR,bne_iff_ne,ne_eq,beq_iff_eq] at h2
     rcases h2 with(h2 | h2) | h2
     ·exact absurd hkd h2
     ·exact .inl h2
     ·exact .inr h2
structure avQ (P:Program) (E:Dj) (n:Nat) (ops:List Oper) (draw:Bool) (xK:List PI) (ps:List qN) (M:List Nat):Prop where
 GY:ps.length=ops.length
 aFD:xK.length=ops.length
 each:∀i o,ops[i]? = some o→∃p pi,ps[i]? = some p∧xK[i]? = some pi∧aiV P E n ops i o p pi∧(draw=true→SI E ops ps M i o p pi)∧(draw=false→pi.quiet=false∧pi.cf=[])
theorem Nc {P:Program} {E:Dj} {n:Nat} {ops:Array Oper} {draw:Bool} {xK:List PI} (h:By P E n ops draw=some xK):∃ps M,avQ P E n ops.toList draw xK ps M:=by
 unfold By at h
 split at h
 ·rename_i ps hps
  simp only at h
  generalize (if draw=true then TA ops.toList [] else [])=M at h
  obtain⟨h1,h2⟩:=Gd hps
  obtain⟨h3,h4⟩:=Gd h
  refine⟨ps,M,h1,by simpa using h3,fun i o ho => ?_⟩
  have bH:=(aLd.1 ho).1
  obtain⟨p,hp,abN⟩:=Ux hps ho
  have hr:(aLa ops.size)[i]? = some i:=by rw[List.getElem?_range];simpa using bH
  obtain⟨pi,hpi,hpp⟩:=Ux h hr
  exact⟨p,pi,hp,hpi,WE hpp ho hp abN⟩
 ·cases h
theorem Qx {o:Oper} {M:List Nat} {i:Nat} (h:(AM o M).testBit i=true):∃e∈o.after.toList,Region.binds .any e=true∧(e.on=i∨(M.getD e.on 0).testBit i=true):=by
 unfold AM at h
 revert h
 generalize o.after.toList=es
 induction es with
 | nil=>intro h;simp at h
 |
  cons e es ih =>
  intro h
  rw[List.foldr_cons] at h
  split at h
  ·rename_i hb
   rw[Nat.testBit_or,Nat.testBit_or,aLR,aLR] at h
   rcases h with(h | h) | h
   ·obtain⟨e',h1,h2⟩:=ih h
    exact⟨e',aLN _ h1,h2⟩
   ·refine⟨e,aLO,hb,.inl ?_⟩
    rw[Nat.testBit_two_pow] at h
    simpa using h
   ·exact⟨e,aLO,hb,.inr h⟩
  ·obtain⟨e',h1,h2⟩:=ih h
   exact⟨e',aLN _ h1,h2⟩
theorem Xp {ops:List Oper} {M:List Nat} {S:Nat→Prop} (hb:∀i o,ops[i]? = some o→∀e∈o.after.toList,Region.binds .any e=true→e.on<i) (hm:∀i o,ops[i]? = some o→M.getD i 0=AM o M)
  (hS:∀i o,ops[i]? = some o→S i→∀e∈o.after.toList,Region.binds .any e=true→S e.on):∀j o,ops[j]? = some o→(∀e∈o.after.toList,Region.binds .any e=true→S e.on)→∀i,(M.getD j 0).testBit i=true→S i:=by
 intro j
 induction j using Nat.strongRecOn with
 |
  _ j ih =>
  intro o ho hj i hi
  rw[hm j o ho] at hi
  obtain⟨e,he,hbd,h1⟩:=Qx hi
  rcases h1 with rfl | h1
  ·exact hj e he hbd
  ·have bH:=hb j o ho e he hbd
   have hjl:=(aLd.1 ho).1
   have hel:e.on<ops.length:=by omega
   exact ih e.on bH ops[e.on] (aLl hel) (hS e.on _ (aLl hel) (hj e he hbd)) i h1
end Go.PM
namespace Go.PM
def AS (P:Program) (L0:Nat) (call:iB):Prop :=
 ∀f args lo H v H',call f args lo H=some (v,H')→∀m w iW,Rel m L0 H w→L0≤lo→L0≤H.length→RL m args iW→(∀b,H.length≤b→b<H'.length→m b=none) →
  Pa P f∧Calls P f iW.toArray w fun e w'=>∃m' rv,e = .returned rv∧RV m' v rv∧Rel m' L0 H' w'∧Trans lo m H w m' H' w'
section
variable {P:Program} {m:dS} {L0:Nat} {H:aH} {w:World}
theorem yI {call:iB} {lo:Nat} {i:PI} {ρ:Env} {v:Value} {H':aH} (h:BZ call lo i ρ H=some (v,H')) :
  (B5 i.g ρ=some false∧v=undef∧H'=H) ∨
  (B5 i.g ρ=some true∧i.cf.all (Dp ρ)=true∧(pop lo i.op ρ H=some (.val v H') ∨
   ∃f args,pop lo i.op ρ H=some (.call f args)∧call f args (if i.quiet then H.length else lo) H=some (v,H'))):=by
 unfold BZ at h
 split at h
 ·cases h
 ·rename_i hw;cases h;exact .inl ⟨hw,rfl,rfl⟩
 ·rename_i hw
  split at h
  ·rename_i TU
   refine .inr ⟨hw,TU,?_⟩
   split at h
   ·rename_i hp;cases h;exact .inl hp
   ·rename_i f args hp;exact .inr ⟨f,args,hp,h⟩
   ·cases h
  ·cases h
theorem aeQ {t:Array Value} {d:Nat} {b:Bool} (h:t.getD d undef = .bool b):t[d]? = some (.bool b):=by
 rcases aLh d t.size with hd | hd
 ·simp[hd] at h ⊢
  exact h
 ·simp[aLS hd,undef] at h
theorem Iq {ops:Array Oper} {i:Nat} {o:Oper} {g:Option (Nat×Bool)} {ρ:Env} {a:Act} {t:Bool} (hg:guardOf ops.toList i o=some g) (hw:B5 g ρ=some t)
  (hr:∀d∈Ax ops.toList o,RV m (ρ d) (a.tmps.getD d undef)):Region.wanted o (yielded ops a.tmps)=t:=by
 unfold guardOf at hg
 unfold Region.wanted
 cases hgd:o.guard with
 |
  none =>
  rw[hgd] at hg
  cases hg
  cases hw
  rfl
 |
  some jw =>
  obtain⟨j,want⟩:=jw
  rw[hgd] at hg
  simp only at hg
  split at hg
  ·split at hg
   ·rename_i d hd
    cases hg
    have PT:d∈Ax ops.toList o:=by
     unfold Ax
     rw[hgd]
     simp only[List.mem_append]
     right
     rw[hd]
     simp
    have HS:=hr d PT
    simp only[B5] at hw
    split at hw
    ·rename_i b hb
     cases hw
     rw[hb] at HS
     generalize hx:a.tmps.getD d undef=x at HS
     cases HS
     have hy:yielded ops a.tmps j=some b:=by
      unfold yielded
      have hd':(ops[j]?).bind (·.dst)=some d:=by simpa using hd
      rw[hd',Option.bind_some,aeQ hx]
     simp only[hy]
     cases b<;>cases want<;>rfl
    ·rename_i vs hb
     cases hw
     rw[hb] at HS
     generalize hx:a.tmps.getD d undef=x at HS
     obtain⟨ws,rfl⟩:∃ws,x = .tuple ws:=by cases HS;exact⟨_,rfl⟩
     have hd':(ops[j]?).bind (·.dst)=some d:=by simpa using hd
     have hy:yielded ops a.tmps j=none:=by
      unfold yielded
      rw[hd',Option.bind_some]
      rcases aLh d a.tmps.size with bH | bH
      ·have:a.tmps[d]? = some (.tuple ws):=by rw[←hx];simp[bH]
       rw[this]
      ·rw[aLS bH]
     simp only[hy]
     rfl
    ·cases hw
   ·cases hg
  ·cases hg
theorem anI {E:Dj} {p:qN} {lo fV:Nat} {ρ:Env} (h:gW E p = .quiet):pop lo p ρ H=pop fV p ρ H:=by
 cases p<;>first | rfl | (simp[gW] at h;done)
theorem Hm {ops:List Oper} {o:Oper} {t:Nat} (h:Operand.tmp t∈o.op.operands):t∈Ax ops o:=by
 unfold Ax tmpsOf
 rw[List.mem_append]
 left
 rw[List.mem_filterMap]
 exact⟨.tmp t,by simpa using h,rfl⟩
theorem NR {op:Op} {p:qN} (h:tG P op=some p):∀x∈op.operands,Tj x=true:=by
 intro x hx
 unfold tG at h
 split at h
 ·rename_i kV
  obtain⟨i,hi,rfl⟩:=Array.getElem_of_mem hx
  exact Array.all_eq_true.1 kV i hi
 ·cases h
theorem SL {E:Dj} {n lo k:Nat} {ops:Array Oper} {o:Oper} {p:qN} {pi:PI} {call:iB} {ρ:Env} {v:Value} {H':aH} {a:Act} {K:Act→World→Prop} {Q:Exit→Act→World→Prop} (ho:ops[k]? = some o) (CU:aiV P E n ops.toList k o p pi)
  (hq:pi.quiet=true→gW E p = .quiet) (hv:BZ call lo pi ρ H=some (v,H')) (hr:∀t∈Ax ops.toList o,RV m (ρ t) (a.tmps.getD t undef)) (hR:Rel m L0 H w) (eT:L0≤lo) (hlen:L0≤H.length)
  (hf:∀b,H.length≤b→b<H'.length→m b=none) (qO:AS P L0 call)
  (hK:∀m' rv w',RV m' v rv→Rel m' L0 H' w'→Trans (if pi.quiet then H.length else lo) m H w m' H' w'→K (a.put o.dst rv) w'):wpOp P ops Q k K a w:=by
 have hro:∀x∈o.op.operands,RV m (ev ρ x) (a.eval x):=fun x hx=>X6 (NR CU.aeK x hx) fun t ht=>hr t (Hm (ht▸hx))
 unfold wpOp
 rw[ho]
 simp only
 rcases yI hv with⟨hw,rfl,rfl⟩ | ⟨hw,_,hp | ⟨f,args,hp,hc⟩⟩
 ·rw[Iq CU.guard hw hr]
  simp only[aLQ,if_false]
  exact hK m undef w (RV.undef m) hR (Trans.refl _ m _ w)
 ·rw[Iq CU.guard hw hr]
  simp only[if_true]
  left
  rw[CU.op] at hp
  have hs:cR P (execOp a.eval o) L0 (if pi.quiet then H.length else lo) m H w v H':=by
   split
   ·rename_i hqq
    rw[anI (fV:=H.length) (hq hqq)] at hp
    exact aaS CU.aeK hp hro hR hlen hf
   ·exact aaS CU.aeK hp hro hR eT hf
  obtain⟨rv,w',m',sS,h1,h2,h3⟩:=hs
  unfold Oper.wp
  rcases sS with sS | ⟨sS,rfl⟩
  ·rw[sS]
   exact hK m' rv w' h1 h2 h3
  ·rw[sS]
   exact hK m' undef w' h1 h2 h3
 ·rw[Iq CU.guard hw hr]
  simp only[if_true]
  left
  rw[CU.op] at hp
  have aCf:L0≤(if pi.quiet then H.length else lo):=by split<;>assumption
  obtain⟨iW,W9,aBA⟩:=afU CU.aeK hp hro
  have sS:=aBA (qO f args _ H v H' hc m w iW hR aCf hlen W9 hf).1
  unfold Oper.wp
  rw[sS w]
  show Calls P f iW.toArray w _
  refine(qO f args _ H v H' hc m w iW hR aCf hlen W9 hf).2.mono ?_
  rintro e w' ⟨m',rv,rfl,h1,h2,h3⟩
  exact hK m' rv w' h1 h2 h3
end
end Go.PM
namespace Go.PM
theorem JX {call:iB} {lo:Nat}:∀ {xK:List PI} {ρ aP:Env} {H H':aH},jB call lo xK ρ H=some (aP,H') →
  ∃st:Nat→Env×aH,st 0=(ρ,H)∧st xK.length=(aP,H')∧∀i pi,xK[i]? = some pi→Bz call lo pi (st i).1 (st i).2=some (st (i+1))
 |
  [],ρ,aP,H,H',h=>by
  cases h
  exact⟨fun _=>(ρ,H),rfl,rfl,fun i pi hi=>by simp at hi⟩
 |
  x::xK,ρ,aP,H,H',h=>by
  rw[jB] at h
  split at h
  ·rename_i AN H1 h1
   obtain⟨st,h2,h3,h4⟩:=JX h
   refine⟨fun i=>match i with | 0=>(ρ,H) | i+1=>st i,rfl,h3,fun i pi hi => ?_⟩
   cases i with
   |
    zero =>
    simp at hi
    subst hi
    show Bz call lo x ρ H=some (st 0)
    rw[h1,h2]
   | succ i=>exact h4 i pi (by simpa using hi)
  ·cases h
theorem kE {H1 H2:aH} {b:Nat} (h:H2[b]? = H1[b]?):Live H2 b↔Live H1 b:=by
 unfold Live
 rw[h]
theorem Rel.restrict {m:dS} {L0:Nat} {H1 H2:aH} {w:World} (h:Rel m L0 H2 w) (hs:∀b,b<H1.length→H2[b]? = H1[b]?):Rel m L0 H1 w:=by
 refine⟨h.valid,fun b l cs e p hm hb=>h.row b l cs e p hm ?_,fun b1 b2 l1 l2 hb h1 h2 Gy Kn=>h.inj b1 b2 l1 l2 hb h1 h2 ((kE (hs b1 Gy.lt)).2 Gy) ((kE (hs b2 Kn.lt)).2 Kn),fun x hx=>⟨(h.Ff x hx).1,fun b l hb hm hl=>(h.Ff x hx).2 b l hb hm ((kE (hs b hl.lt)).2 hl)⟩⟩
 rw[hs b (aLd.1 hb).1]
 exact hb
theorem Rel.grow {m:dS} {L0:Nat} {H1 H2:aH} {w:World} (h:Rel m L0 H1 w) (hs:∀b,b<H1.length→H2[b]? = H1[b]?) (hd:∀b,H1.length≤b→b<H2.length→m b=none):Rel m L0 H2 w:=by
 have lt:∀b l,m b=some l→b<H2.length→b<H1.length:=fun b l hm hb=>by
  rcases aLh b H1.length with h | h
  ·exact h
  ·rw[hd b h hb] at hm;cases hm
 refine⟨h.valid,fun b l cs e p hm hb=>h.row b l cs e p hm ?_,fun b1 b2 l1 l2 hb h1 h2 Gy Kn=>h.inj b1 b2 l1 l2 hb h1 h2 ((kE (hs b1 (lt b1 l1 h1 Gy.lt))).1 Gy) ((kE (hs b2 (lt b2 l2 h2 Kn.lt))).1 Kn),fun x hx=>⟨(h.Ff x hx).1,fun b l hb hm hl=>(h.Ff x hx).2 b l hb hm ((kE (hs b (lt b l hm hl.lt))).1 hl)⟩⟩
 rw[←hs b (lt b l hm (aLd.1 hb).1)]
 exact hb
structure Text (P:Program) (E:Dj) (n:Nat) (ops:Array Oper) (xK:List PI) (ps:List qN) (M:List Nat) (call:iB) (lo:Nat) (st:Nat→Env×aH):Prop where
 ok:avQ P E n ops.toList true xK ps M
 ext:vJ call
 step:∀i pi,xK[i]? = some pi→Bz call lo pi (st i).1 (st i).2=some (st (i+1))
section
variable {P:Program} {E:Dj} {n:Nat} {ops:Array Oper} {xK:List PI} {ps:List qN} {M:List Nat} {call:iB} {lo:Nat} {st:Nat→Env×aH}
theorem Text.at (T:Text P E n ops xK ps M call lo st) {i:Nat} (hi:i<ops.size):∃o p pi,ops[i]? = some o∧ps[i]? = some p∧xK[i]? = some pi∧aiV P E n ops.toList i o p pi∧SI E ops.toList ps M i o p pi ∧
  ∃v,BZ call lo pi (st i).1 (st i).2=some (v,(st (i+1)).2)∧(st (i+1)).1=put (st i).1 o.dst v:=by
 have ho:ops.toList[i]? = some ops[i]:=by simp[hi]
 obtain⟨p,pi,h1,h2,h3,h4,_⟩:=T.ok.each i _ ho
 obtain⟨v,h5,h6⟩:=BH (T.step i pi h2)
 exact⟨ops[i],p,pi,by simp[hi],h1,h2,h3,h4 rfl,v,h5,by rw[h6,h3.dst]⟩
theorem Text.aBp (T:Text P E n ops xK ps M call lo st) {i:Nat} (hi:i<ops.size):(st i).2.length≤(st (i+1)).2.length:=by
 obtain⟨o,p,pi,_,_,_,_,_,v,hv,_⟩:=T.at hi
 exact(Po T.ext hv).len
theorem Text.len (T:Text P E n ops xK ps M call lo st) {i:Nat}:∀ {j:Nat},i≤j→j≤ops.size→(st i).2.length≤(st j).2.length:=by
 intro j Qq
 induction j with
 | zero =>
    intro _;have:i=0:=by omega
    subst this;exact aLe _
 |
  succ j ih =>
  intro hj
  rcases aLh i (j+1) with h | h
  ·exact aLf (ih (by omega) (by omega)) (T.aBp (by omega))
  ·have:i=j+1:=by omega
   subst this;exact aLe _
theorem Text.aBe (T:Text P E n ops xK ps M call lo st) {i:Nat} {p:qN} (hi:i<ops.size) (hp:ps[i]? = some p) (hw:gW E p ≠ .write):∀b,b<(st i).2.length→(st (i+1)).2[b]? = (st i).2[b]? := by
 intro b hb
 obtain⟨o,p',pi,_,B1,_,CU,hdr,v,hv,_⟩:=T.at hi
 rw[hp] at B1
 cases B1
 rcases yI hv with⟨_,_,h⟩ | ⟨_,_,h | ⟨f,args,h1,h2⟩⟩
 ·rw[h]
 ·rw[CU.op] at h
  by_cases hq:gW E p = .quiet
  ·rw[anI (fV:=(st i).2.length) hq] at h
   exact(aaN h).low b hb hb
  ·
   have:(st (i+1)).2=(st i).2:=by
    cases p<;>first
     | (exact absurd rfl hw)
     | (exact absurd rfl hq)
     | (rw[A7 rfl] at h;exact(Fu h).2)
     | skip
    case load agg size q =>
     simp only[pop] at h
     cases hl:rB agg size (ev (st i).1 q) (st i).2 with
     | none=>rw[hl] at h;cases h
     | some u=>rw[hl] at h;injection h with h;injection h with _ h;exact h.symm
    case b2s x =>
     simp only[pop] at h
     split at h
     ·injection h with h;injection h with _ h;exact h.symm
     ·split at h
      ·rename_i cs _
       cases hb:xV cs with
       | none=>rw[hb] at h;cases h
       | some bs=>rw[hb] at h;injection h with h;injection h with _ h;exact h.symm
      ·cases h
     ·cases h
    case sub size x l hh mx =>
     simp only[pop] at h
     cases mx with
     | some mx=>exact absurd rfl hq
     |
      none =>
      cases hs:E1 size (ev (st i).1 x) (l.map (ev (st i).1)) (hh.map (ev (st i).1)) ((none:Option Operand).map (ev (st i).1)) (st i).2 with
      | none=>rw[hs] at h;cases h
      |
       some q =>
       obtain⟨u,H1⟩:=q
       rw[hs] at h
       injection h with h;injection h with _ h
       subst h
       unfold E1 at hs
       simp only[Option.map_none,aLT,aLQ,false_and,if_false] at hs
       repeat' (split at hs)
       all_goals first
        | (cases hs;done)
        | (injection hs with hs;injection hs with _ hs;exact hs.symm)
    case call f args=>cases h
   rw[this]
 ·rw[CU.op] at h1
  have hq:pi.quiet=true:=by
   rw[hdr.quiet]
   rcases vZ h1 with⟨g,as,rfl⟩ | ⟨g,as,rfl⟩
   ·simp only[gW] at hw ⊢
    split at hw
    ·exact absurd rfl hw
    ·rename_i h;rw[if_neg h]
   ·rfl
  rw[hq] at h2
  exact(T.ext _ _ _ _ _ _ h2).low b hb hb
end
end Go.PM
namespace Go.PM
theorem GD {H H':aH} {lo b o:Nat} {new:List Value} (h:H.write lo b o new=some H') {b':Nat} (hb:b'≠b):H'[b']? = H[b']? := by
 obtain⟨cs,e,p,h1,h2,h3,h4,rfl⟩:=DR h
 exact aLD (Ne.symm hb)
theorem Mq {H H':aH} {lo size bytes add:Nat} {x v:Value} {new:List Value} (h:fK lo size bytes x add new H=some (v,H')) {b':Nat} (hb:kQ x≠some b') (bH:b'<H.length):H'[b']? = H[b']? := by
 unfold fK at h
 split at h
 case isFalse=>cases h
 split at h
 ·split at h
  ·split at h
   ·cases h;rfl
   ·split at h
    ·cases h;exact aLv bH
    ·cases h
  ·cases h
 ·rename_i b o n c
  have fN:b'≠b:=fun e=>hb (by rw[e];rfl)
  split at h
  ·split at h
   ·split at h
    ·split at h
     ·cases h;rfl
     ·cases hw:aH.write H lo b (o+n*size) new with
      | none=>rw[hw] at h;cases h
      | some H1=>rw[hw] at h;cases h;exact GD hw fN
    ·split at h
     ·split at h
      ·split at h
       ·cases h
        rw[aLv (by simpa using bH)]
        exact aLD (Ne.symm fN)
       ·cases h
      ·cases h;exact aLv bH
     ·cases h
   ·cases h
  ·cases h
 ·cases h
theorem aqK {E:Dj} {lo:Nat} {p:qN} {ρ:Env} {H H':aH} {v:Value} {x:Operand} (h:pop lo p ρ H=some (.val v H')) (hw:gW E p = .write) (ht:HO p=some x) {b':Nat} (hb:kQ (ev ρ x)≠some b') (bH:b'<H.length):H'[b']? = H[b']? := by
 cases p<;>first | (cases ht;done) | (cases hw;done) | skip
 case sub size y l hh mx=>cases mx<;>cases hw
 case store size q y =>
  cases ht
  simp only[pop] at h
  split at h
  ·rename_i b o he
   rw[he] at hb
   have fN:b'≠b:=fun e=>hb (by rw[e];rfl)
   split at h
   ·cases hw:H.write lo b o (aV (ev ρ y)) with
    | none=>rw[hw] at h;cases h
    | some H1=>rw[hw] at h;cases h;exact GD hw fN
   ·cases h
  ·cases h
 case app size bytes y z =>
  cases ht
  simp only[pop] at h
  split at h
  ·rename_i n _
   split at h
   ·rename_i new _
    cases ha:fK lo size bytes (ev ρ x) n new H with
    | none=>rw[ha] at h;cases h
    |
     some q =>
     obtain⟨u,H1⟩:=q
     rw[ha] at h;cases h;exact Mq ha hb bH
   ·cases h
  ·cases h
 case appz z bytes y n =>
  cases ht
  simp only[pop] at h
  split at h
  ·rename_i k _
   split at h
   ·cases ha:fK lo z.length bytes (ev ρ x) k.toNat (dE k.toNat z) H with
    | none=>rw[ha] at h;cases h
    |
     some q =>
     obtain⟨u,H1⟩:=q
     rw[ha] at h;cases h;exact Mq ha hb bH
   ·cases h
  ·cases h
 case copy size y z =>
  cases ht
  simp only[pop] at h
  split at h
  ·cases h;rfl
  ·rename_i b o d _ s he _
   rw[he] at hb
   have fN:b'≠b:=fun e=>hb (by rw[e];rfl)
   split at h
   ·rename_i new _
    cases hw:H.write lo b o new with
    | none=>rw[hw] at h;cases h
    | some H1=>rw[hw] at h;cases h;exact GD hw fN
   ·cases h
  ·cases h
 case clear z y =>
  cases ht
  simp only[pop] at h
  split at h
  ·cases h;rfl
  ·rename_i b o n _ he
   rw[he] at hb
   have fN:b'≠b:=fun e=>hb (by rw[e];rfl)
   split at h
   ·cases h;rfl
   ·cases hw:H.write lo b o (dE n z) with
    | none=>rw[hw] at h;cases h
    | some H1=>rw[hw] at h;cases h;exact GD hw fN
  ·cases h
theorem Ts {H:aH} {b o n:Nat} {cs:List Value} (h:H.read b o n=some cs):b<H.length:=by
 unfold aH.read at h
 split at h
 ·rename_i hb;exact(aLd.1 hb).1
 ·cases h
theorem Im {H H2:aH} {b o n:Nat} (h:H2[b]? = H[b]?):H2.read b o n=H.read b o n:=by
 unfold aH.read
 rw[h]
theorem Y6 {agg:Bool} {size:Nat} {x v:Value} {H H2:aH} (h:rB agg size x H=some v) (hb:∀b,kQ x=some b→b<H.length→H2[b]? = H[b]?):rB agg size x H2=some v:=by
 unfold rB at h ⊢
 split at h
 ·rename_i b o
  have bH:b<H.length:=by
   split at h
   ·cases hr:H.read b o size with
    | none=>rw[hr] at h;cases h
    | some cs=>exact Ts hr
   ·cases hr:H.read b o 1 with
    | none=>rw[hr] at h;cases h
    | some cs=>exact Ts hr
  have e:=hb b rfl bH
  simp only[Im e]
  exact h
 ·cases h
theorem VD {E:Dj} {lo:Nat} {p:qN} {ρ:Env} {H H' H2:aH} {v:Value} (h:pop lo p ρ H=some (.val v H')) (hc:gW E p = .look) (hb:∀x,HO p=some x→∀b,kQ (ev ρ x)=some b→b<H.length→H2[b]? = H[b]?) :
  H'=H∧pop lo p ρ H2=some (.val v H2):=by
 cases p<;>first | (cases hc;done) | skip
 case call f args=>simp only[gW] at hc;split at hc<;>cases hc
 case load agg size q =>
  simp only[pop] at h ⊢
  cases hl:rB agg size (ev ρ q) H with
  | none=>rw[hl] at h;cases h
  |
   some u =>
   rw[hl] at h
   cases h
   refine⟨rfl,?_⟩
   rw[Y6 hl (hb q rfl)]
   rfl
 case b2s x =>
  simp only[pop] at h ⊢
  split at h
  ·cases h;exact⟨rfl,rfl⟩
  ·rename_i b o n _ he
   split at h
   ·rename_i cs hr
    cases hbs:xV cs with
    | none=>rw[hbs] at h;cases h
    |
     some bs =>
     rw[hbs] at h
     cases h
     refine⟨rfl,?_⟩
     have e:=hb x rfl b (by rw[he];rfl) (Ts hr)
     rw[Im e,hr]
     simp only[hbs]
     rfl
   ·cases h
  ·cases h
 case sub size x l hh mx =>
  cases mx with
  | some mx=>cases hc
  |
   none =>
   simp only[pop] at h ⊢
   cases hs:E1 size (ev ρ x) (l.map (ev ρ)) (hh.map (ev ρ)) ((none:Option Operand).map (ev ρ)) H with
   | none=>rw[hs] at h;cases h
   |
    some q =>
    obtain⟨u,H1⟩:=q
    rw[hs] at h
    cases h
    have xR:=hb x rfl
    generalize ev ρ x=xv at hs xR
    have key:H1=H∧E1 size xv (l.map (ev ρ)) (hh.map (ev ρ)) ((none:Option Operand).map (ev ρ)) H2=some (u,H2):=by
     unfold E1 at hs ⊢
     simp only[Option.map_none,aLT,aLQ,false_and,if_false] at hs ⊢
     split at hs
     ·repeat' (split at hs)
      all_goals first | (cases hs;done) | skip
      cases hs
      simp_all
     ·rename_i b o n c
      split at hs
      ·rename_i cs e p mA
       have e1:=xR b rfl (aLd.1 mA).1
       rw[e1,mA]
       simp only
       repeat' (split at hs)
       all_goals first | (cases hs;done) | skip
       cases hs
       simp_all
      ·cases hs
     ·cases hs
    rw[key.2]
    exact⟨key.1,rfl⟩
section
variable {P:Program} {E:Dj} {n:Nat} {ops:Array Oper} {xK:List PI} {ps:List qN} {M:List Nat} {call:iB} {lo:Nat} {st:Nat→Env×aH}
theorem Text.amG (T:Text P E n ops xK ps M call lo st) {i:Nat}:∀ {j:Nat},i≤j→j≤ops.size→Ext lo (st i).2 (st j).2:=by
 intro j Qq
 induction j with
 | zero =>
    intro _;have:i=0:=by omega
    subst this;exact Ext.refl _ _
 |
  succ j ih =>
  intro hj
  rcases aLh i (j+1) with h | h
  ·obtain⟨o,p,pi,_,_,_,_,_,v,hv,_⟩:=T.at (i:=j) (by omega)
   exact(ih (by omega) (by omega)).trans (Po T.ext hv)
  ·have:i=j+1:=by omega
   subst this;exact Ext.refl _ _
theorem Text.aiO (T:Text P E n ops xK ps M call lo st) {i:Nat}:∀ {j:Nat},i≤j→j≤ops.size→∀b,b<(st i).2.length →
  (∀k,i≤k→k<j→∀p pi,ps[k]? = some p→xK[k]? = some pi→gW E p = .write→B5 pi.g (st k).1=some true→∃x,HO p=some x∧kQ (ev (st k).1 x)≠some b) →
  (st j).2[b]? = (st i).2[b]? := by
 intro j Qq
 induction j with
 | zero =>
      intro _ b _ _;have:i=0:=by omega
      subst this;rfl
 |
  succ j ih =>
  intro hj b hb hk
  rcases aLh i (j+1) with h | h
  ·have bH:b<(st j).2.length:=aLg hb (T.len (by omega) (by omega))
   have h1:(st (j+1)).2[b]? = (st j).2[b]? := by
    obtain⟨o,p,pi,_,hp,hpi,CU,_,v,hv,_⟩:=T.at (i:=j) (by omega)
    by_cases hw:gW E p = .write
    ·rcases yI hv with⟨_,_,h⟩ | ⟨hwt,_,h | ⟨f,args,h1,h2⟩⟩
     ·rw[h]
     ·rw[CU.op] at h
      obtain⟨x,hx,fN⟩:=hk j (by omega) (by omega) p pi hp hpi hw hwt
      exact aqK h hw hx fN bH
     ·rw[CU.op] at h1
      obtain⟨x,hx,fN⟩:=hk j (by omega) (by omega) p pi hp hpi hw hwt
      rcases vZ h1 with⟨g,as,rfl⟩ | ⟨g,as,rfl⟩<;>cases hx
    ·exact T.aBe (by omega) hp hw b bH
   rw[h1]
   exact ih (by omega) (by omega) b hb fun k hk1 Gk=>hk k hk1 (by omega)
  ·have:i=j+1:=by omega
   subst this;rfl
theorem Text.same (T:Text P E n ops xK ps M call lo st) {i j:Nat} (Qq:i≤j) (hj:j≤ops.size) (hk:∀k,i≤k→k<j→∀p,ps[k]? = some p→gW E p ≠ .write):∀b,b<(st i).2.length→(st j).2[b]? = (st i).2[b]? :=
 fun b hb=>T.aiO Qq hj b hb fun k h1 h2 p _ hp _ hw _=>absurd hw (hk k h1 h2 p hp)
theorem Text.S8 (T:Text P E n ops xK ps M call lo st) {i t:Nat}:∀ {j:Nat},i≤j→j≤ops.size→(∀k o,i≤k→k<j→ops[k]? = some o→o.dst≠some t)→(st j).1 t=(st i).1 t:=by
 intro j Qq
 induction j with
 | zero =>
      intro _ _;have:i=0:=by omega
      subst this;rfl
 |
  succ j ih =>
  intro hj hk
  rcases aLh i (j+1) with h | h
  ·obtain⟨o,p,pi,ho,hp,hpi,CU,_,v,hv,he⟩:=T.at (i:=j) (by omega)
   rw[he]
   have fN:=hk j o (by omega) (by omega) ho
   have h1:put (st j).1 o.dst v t=(st j).1 t:=by
    cases hd:o.dst with
    | none=>rfl
    |
     some d =>
     rw[hd] at fN
     show (if t=d then v else _)=_
     rw[if_neg (fun e=>fN (by rw[e]))]
   rw[h1]
   exact ih (by omega) (by omega) fun k o hk1 Gk=>hk k o hk1 (by omega)
  ·have:i=j+1:=by omega
   subst this;rfl
end
end Go.PM
namespace Go.PM
theorem Bl {M:List Nat} {i j:Nat} (h:i<j):ahead M i j=(M.getD j 0).testBit i:=by
 unfold ahead
 have e1:Nat.max i j=j:=Nat.max_eq_right (by omega)
 have e2:aLL i j=i:=Nat.min_eq_left (by omega)
 rw[e1,e2]
theorem ahE {M:List Nat} {i j:Nat} (h:j<i):ahead M i j=(M.getD i 0).testBit j:=by
 unfold ahead
 have e1:Nat.max i j=i:=Nat.max_eq_left (by omega)
 have e2:aLL i j=j:=Nat.min_eq_right (by omega)
 rw[e1,e2]
theorem VY {a:Act} {d t:Nat} {v:Value} (hd:d<a.tmps.size):(a.put (some d) v).tmps.getD t undef=if t=d then v else a.tmps.getD t undef:=by
 show (a.tmps.setIfInBounds d v).getD t undef=_
 rcases aLh t a.tmps.size with h | h
 ·by_cases e:t=d
  ·subst e;simp[h]
  ·simp[h,e,Ne.symm e]
 ·have:t≠d:=by omega
  simp[h,this]
theorem Jt (a:Act) (d:Option Nat) (v:Value):(a.put d v).tmps.size=a.tmps.size:=by
 cases d<;>simp[Act.put]
theorem I7 (a:Act) (d:Option Nat) (v:Value):(a.put d v).defers=a.defers:=by
 cases d<;>rfl
section
variable {P:Program} {E:Dj} {n:Nat} {ops:Array Oper} {xK:List PI} {ps:List qN} {M:List Nat} {call:iB} {lo L0:Nat} {st:Nat→Env×aH}
structure vQ (E:Dj) (n:Nat) (ops:Array Oper) (ps:List qN) (lo L0:Nat) (st:Nat→Env×aH) (m0:dS) (w0:World) (ds:List Deferred) (S:Nat→Prop) (m:dS) (c:Nat) (a:Act) (w:World):Prop where
 JO:a.tmps.size=n
 defs:a.defers=ds
 back:∀i o,ops.toList[i]? = some o→S i→∀e∈o.after.toList,Region.binds .any e=true→S e.on
 tm:∀t j,j≤ops.size→(∀i o,ops.toList[i]? = some o→o.dst=some t→(S i↔i<j))→RV m ((st j).1 t) (a.tmps.getD t undef)
 Q1:c≤ops.size
 before:∀i p,i<c→ps[i]? = some p→gW E p = .write→S i
 atc:c<ops.size→¬S c∧∃p,ps[c]? = some p∧gW E p = .write
 rel:Rel m L0 (st c).2 w
 tr:Trans lo m0 (st 0).2 w0 m (st c).2 w
 dom:∀b l,m b=some l→m0 b≠none∨∃i,S i∧i<ops.size∧(st i).2.length≤b∧b<(st (i+1)).2.length
theorem Text.anc (T:Text P E n ops xK ps M call lo st) {S:Nat→Prop} (hS:∀i o,ops.toList[i]? = some o→S i→∀e∈o.after.toList,Region.binds .any e=true→S e.on) {k:Nat} {o:Oper} (ho:ops.toList[k]? = some o)
  (hk:∀e∈o.after.toList,Region.binds .any e=true→S e.on) {i:Nat} (hi:(M.getD k 0).testBit i=true):S i :=
 Xp (fun i o hio=>by
   obtain⟨p,pi,_,_,_,hd,_⟩:=T.ok.each i o hio
   exact(hd rfl).back) (fun i o hio=>by
   obtain⟨p,pi,_,_,_,hd,_⟩:=T.ok.each i o hio
   exact(hd rfl).mask) hS k o ho hk i hi
theorem Text.ZJ (T:Text P E n ops xK ps M call lo st) {i:Nat} {p:qN} (hi:i<ops.size) (hp:ps[i]? = some p) (h:gW E p = .pure∨gW E p = .look):(st (i+1)).2=(st i).2:=by
 obtain⟨o,p',pi,_,B1,_,CU,hdr,v,hv,_⟩:=T.at hi
 rw[hp] at B1
 cases B1
 rcases yI hv with⟨_,_,h'⟩ | ⟨_,_,h' | ⟨f,args,h1,h2⟩⟩
 ·exact h'
 ·rw[CU.op] at h'
  rcases h with h | h
  ·have:yJ p=true:=by
    cases p<;>first | rfl | (cases h;done) | skip
    case sub s x l hh mx=>cases mx<;>cases h
    case call f as=>simp only[gW] at h;split at h<;>cases h
   rw[A7 this] at h'
   exact(Fu h').2
  ·exact(VD h' h (fun _ _ _ _ _=>rfl)).1
 ·exfalso
  rw[CU.op] at h1
  rcases vZ h1 with⟨g,as,rfl⟩ | ⟨g,as,rfl⟩
  ·simp only[gW] at h
   split at h<;>rcases h with h | h<;>cases h
  ·rcases h with h | h<;>cases h
theorem afH {op:Op} {p:qN} {x:Operand} (h:tG P op=some p) (ht:HO p=some x):x∈op.operands:=by
 unfold tG at h
 split at h
 case isFalse=>cases h
 cases op with
 |
  load t q =>
  dsimp only at h
  cases hi:oH P t with
  | none=>rw[hi] at h;cases h
  | some u=>rw[hi] at h;cases h;cases ht;simp[Op.operands]
 |
  store t q v =>
  dsimp only at h
  cases hi:P.info? t with
  | none=>rw[hi] at h;cases h
  | some u=>rw[hi] at h;cases h;cases ht;simp[Op.operands]
 |
  slice t y l hh mx =>
  dsimp only at h
  split at h
  ·split at h
   ·cases h;cases ht
   ·cases h
  ·rename_i e _
   cases hi:oH P e with
   | none=>rw[hi] at h;cases h
   | some u=>rw[hi] at h;cases h;cases ht;simp[Op.operands]
  ·cases h
 |
  convert s d y =>
  dsimp only at h
  repeat' (split at h)
  all_goals first
   | (cases h;done)
   | (cases h;cases ht;done)
   | (cases h;cases ht;simp[Op.operands])
 |
  call c =>
  obtain⟨callee,args,ts⟩:=c
  cases callee with
  |
   builtin b =>
   simp only[sG] at h
   repeat' (split at h)
   all_goals first
    | (cases h;done)
    | (cases h;cases ht;done)
    | skip
   all_goals
    cases h
    cases ht
    have hm:x∈args.toList:=by simp_all
    simpa[Op.operands,Call.operands] using hm
  |
   value f =>
   cases f with
   | tmp g'=>cases h;cases ht
   | func g'=>cases h;cases ht
   | _=>cases h
  | invoke r s=>cases h
 |
  _ =>
  exfalso
  dsimp only at h
  try unfold D4 at h
  repeat' (split at h)
  all_goals first
   | contradiction
   | (cases h;done)
   | (cases h;cases ht;done)
   | exact map_none h (by intro y h;cases h;cases ht)
end
end Go.PM
namespace Go.PM
theorem IS (p:Nat→Prop):∀(d c N:Nat),N-c=d→c≤N→∃c',c≤c'∧c'≤N∧(∀i,c≤i→i<c'→¬p i)∧(c'<N→p c')
 | 0,c,N,hd,hc=>⟨c,aLe _,hc,fun i h1 h2=>by omega,fun h=>by omega⟩
 |
  d+1,c,N,hd,hc=>by
  by_cases hp:p c
  ·exact⟨c,aLe _,hc,fun i h1 h2=>by omega,fun _=>hp⟩
  ·obtain⟨c',h1,h2,h3,h4⟩:=IS p d (c+1) N (by omega) (by omega)
   refine⟨c',by omega,h2,fun i hi1 qU => ?_,h4⟩
   rcases aLh c i with h | h
   ·exact h3 i h qU
   ·have:i=c:=by omega
    subst this;exact hp
theorem aiH {m:dS} {v r:Value} {b:Nat} (h:RV m v r) (hb:kQ v=some b):∃l,m b=some l:=by
 cases h<;>first | (cases hb;done) | (cases hb;exact⟨_,by assumption⟩)
section
variable {P:Program} {E:Dj} {n:Nat} {ops:Array Oper} {xK:List PI} {ps:List qN} {M:List Nat} {call:iB} {lo L0:Nat} {st:Nat→Env×aH}
 {m0:dS} {w0:World} {ds:List Deferred} {S:Nat→Prop} {m:dS} {c:Nat} {a:Act} {w:World} {k:Nat} {o:Oper} {p:qN} {pi:PI}
structure At (P:Program) (E:Dj) (n:Nat) (ops:Array Oper) (xK:List PI) (ps:List qN) (M:List Nat) (S:Nat→Prop) (k:Nat) (o:Oper) (p:qN) (pi:PI):Prop where
 lt:k<ops.size
 eo:ops[k]? = some o
 ep:ps[k]? = some p
 epi:xK[k]? = some pi
 ok:aiV P E n ops.toList k o p pi
 dr:SI E ops.toList ps M k o p pi
 aEw:¬S k
 anc:∀i,(M.getD k 0).testBit i=true→S i
 desc:∀i,i<ops.size→S i→(M.getD i 0).testBit k=true→False
theorem At.ah (A:At P E n ops xK ps M S k o p pi) {i:Nat} (hi:i<ops.size) (h:i=k∨ahead M k i=true):S i↔i<k:=by
 rcases aLU i k with h1 | h1 | h1
 ·refine⟨fun _=>h1,fun _ => ?_⟩
  rcases h with h | h
  ·omega
  ·rw[ahE h1] at h;exact A.anc i h
 ·subst h1
  exact⟨fun h=>absurd h A.aEw,fun h=>by omega⟩
 ·refine⟨fun hs => ?_,fun h=>by omega⟩
  rcases h with h | h
  ·omega
  ·rw[Bl h1] at h;exact absurd h (fun h=>A.desc i hi hs h)
theorem IL {i:Nat} {oi:Oper} (h:ops.toList[i]? = some oi):i<ops.size:=by
 have:=(aLd.1 h).1
 simpa using this
theorem At.reads (A:At P E n ops xK ps M S k o p pi) (I:vQ E n ops ps lo L0 st m0 w0 ds S m c a w):∀t∈Ax ops.toList o,RV m ((st k).1 t) (a.tmps.getD t undef):=by
 intro t ht
 refine I.tm t k (aLV A.lt) fun i oi hi hd => ?_
 exact A.ah (IL hi) (A.dr.QZ t (List.mem_append_right _ ht) i oi hi hd)
theorem At.operand (A:At P E n ops xK ps M S k o p pi) (I:vQ E n ops ps lo L0 st m0 w0 ds S m c a w) {x:Operand} (hx:x∈o.op.operands):RV m (ev (st k).1 x) (a.eval x) :=
 X6 (NR A.ok.aeK x hx) fun t ht=>A.reads I t (Hm (ht▸hx))
theorem At.pair (T:Text P E n ops xK ps M call lo st) {i j:Nat} {p q:qN} (Qq:i<j) (hj:j<ops.size) (hp:ps[i]? = some p) (hq:ps[j]? = some q):∃qi,xK[j]? = some qi∧Hh E ops.toList M i j p q qi.cf:=by
 obtain⟨o,q',qi,_,Pn,hqi,_,hd,_⟩:=T.at hj
 rw[hq] at Pn
 cases Pn
 exact⟨qi,hqi,hd.aCZ i Qq p hp⟩
theorem vQ.late (T:Text P E n ops xK ps M call lo st) (I:vQ E n ops ps lo L0 st m0 w0 ds S m c a w) {i:Nat} {q:qN} (hi:c<i) (hn:i<ops.size) (hS:S i) (hq:ps[i]? = some q):gW E q = .pure∨gW E q = .look:=by
 obtain⟨hcS,pc,hpc,TZ⟩:=I.atc (by omega)
 obtain⟨qi,_,lA⟩:=At.pair T hi hn hpc hq
 unfold Hh at lA
 rw[TZ] at lA
 obtain⟨oi,_,_,hoi,_⟩:=T.at hn
 have Ur:ops.toList[i]? = some oi:=by simpa using hoi
 have fin:ahead M c i=true→False:=fun h=>by
  rw[Bl hi] at h
  exact hcS (T.anc I.back Ur (I.back i oi Ur hS) h)
 cases mN:gW E q with
 | pure=>exact .inl rfl
 | look=>exact .inr rfl
 | quiet=>rw[mN] at lA;exact absurd lA fin
 | write=>rw[mN] at lA;exact absurd lA fin
theorem vQ.QZ (T:Text P E n ops xK ps M call lo st) (I:vQ E n ops ps lo L0 st m0 w0 ds S m c a w) (A:At P E n ops xK ps M S k o p pi) {m':dS} {v rv:Value} (hm:∀b l,m b=some l→m' b=some l) (hv:RV m' v rv)
  (he:(st (k+1)).1=put (st k).1 o.dst v):∀t j,j≤ops.size→(∀i o,ops.toList[i]? = some o→o.dst=some t→((i=k∨S i)↔i<j))→RV m' ((st j).1 t) ((a.put o.dst rv).tmps.getD t undef):=by
 intro t j hj hw
 have CU:ops.toList[k]? = some o:=by simpa using A.eo
 cases hd:o.dst with
 |
  none =>
  show RV m' _ (a.tmps.getD t undef)
  refine(I.tm t j hj fun i oi hi hdi => ?_).mono hm
  have fN:i≠k:=fun e=>by subst e;rw[CU] at hi;cases hi;rw[hd] at hdi;cases hdi
  rw[←hw i oi hi hdi]
  simp[fN]
 |
  some d =>
  rw[VY (by rw[I.JO];exact A.ok.bound d hd)]
  by_cases htd:t=d
  ·subst htd
   rw[if_pos rfl]
   have hkj:k<j:=(hw k o CU hd).1 (.inl rfl)
   have e1:(st j).1 t=(st (k+1)).1 t:=by
    refine T.S8 hkj hj fun i oi hi1 qU hoi hdi => ?_
    have Ur:ops.toList[i]? = some oi:=by simpa using hoi
    have hS:=(hw i oi Ur hdi).2 qU
    have Uj:i≠k:=by omega
    have:=(A.ah (IL Ur) (A.dr.QZ t (List.mem_append_left _ (by rw[hd];simp)) i oi Ur hdi)).1 (hS.resolve_left Uj)
    omega
   rw[e1,he,hd]
   show RV m' (if t=t then v else _) rv
   rw[if_pos rfl]
   exact hv
  ·rw[if_neg htd]
   refine(I.tm t j hj fun i oi hi hdi => ?_).mono hm
   have fN:i≠k:=fun e=>by subst e;rw[CU] at hi;cases hi;rw[hd] at hdi;cases hdi;exact htd rfl
   rw[←hw i oi hi hdi]
   simp[fN]
theorem vQ.amT (I:vQ E n ops ps lo L0 st m0 w0 ds S m c a w) (A:At P E n ops xK ps M S k o p pi) (hr:∀e∈o.after.toList,Region.binds .any e=true→S e.on) :
  ∀i oi,ops.toList[i]? = some oi→(i=k∨S i)→∀e∈oi.after.toList,Region.binds .any e=true→(e.on=k∨S e.on):=by
 intro i oi hi hS e he hb
 rcases hS with rfl | hS
 ·have:ops.toList[i]? = some o:=by simpa using A.eo
  rw[this] at hi
  cases hi
  exact .inr (hr e he hb)
 ·exact .inr (I.back i oi hi hS e he hb)
theorem JR (T:Text P E n ops xK ps M call lo st) {i j:Nat} {x:Operand} (Qq:i≤j) (hj:j≤ops.size) (h:GH ops.toList i j x=true):ev (st j).1 x=ev (st i).1 x:=by
 cases x with
 |
  tmp t =>
  refine T.S8 Qq hj fun q oq h1 h2 hoq hd => ?_
  have kV:=aLs.1 h oq (by
   have aFc:ops.toList[q]? = some oq:=by simpa using hoq
   rw[List.mem_iff_getElem?]
   refine⟨q-i,?_⟩
   rw[List.getElem?_drop,List.getElem?_take,show i+(q-i)=q by omega,if_pos h2,aFc])
  simp[hd] at kV
 | const v=>rfl
 | global g=>rfl
 | func f=>rfl
theorem vQ.look (T:Text P E n ops xK ps M call lo st) (I:vQ E n ops ps lo L0 st m0 w0 ds S m c a w) (A:At P E n ops xK ps M S k o p pi) (D8:∀b,(st 0).2.length≤b→b<(st ops.size).2.length→m0 b=none)
  (mN:gW E p = .pure∨gW E p = .look) {v:Value} (hv:BZ call lo pi (st k).1 (st k).2=some (v,(st (k+1)).2)):BZ call lo pi (st k).1 (st c).2=some (v,(st c).2):=by
 rcases yI hv with⟨hw,rfl,_⟩ | ⟨hw,TU,hp | ⟨f,args,hp,_⟩⟩
 ·unfold BZ
  rw[hw]
 ·unfold BZ
  rw[hw]
  simp only[TU,if_true]
  have key:pop lo pi.op (st k).1 (st c).2=some (.val v (st c).2):=by
   rw[A.ok.op] at hp ⊢
   rcases mN with mN | mN
   ·have hlp:yJ p=true:=by
     cases p<;>first | rfl | (cases mN;done) | skip
     case sub s x l hh mx=>cases mx<;>cases mN
     case call f as=>simp only[gW] at mN;split at mN<;>cases mN
    rw[A7 hlp] at hp ⊢
    rw[(Fu hp).1]
    rfl
   ·refine(VD hp mN fun x hx b hb bH => ?_).2
    rcases aLh c k with hck | hck
    ·obtain⟨hcS,pc,hpc,TZ⟩:=I.atc (Nat.lt_trans hck A.lt)
     have Om:b<(st c).2.length:=by
      rcases aLh b (st c).2.length with h | h
      ·exact h
      ·exfalso
       obtain⟨l,hl⟩:=aiH (A.operand I (afH A.ok.aeK hx)) hb
       have h0:=T.len (i:=0) (j:=c) (aLI _) I.Q1
       have h1:=T.len (i:=k) (j:=ops.size) (aLV A.lt) (aLe _)
       rcases I.dom b l hl with h2 | ⟨i,hiS,bX,hi1,qU⟩
       ·exact h2 (D8 b (by omega) (by omega))
       ·rcases aLU i c with h3 | h3 | h3
        ·have:=T.len (i:=i+1) (j:=c) h3 I.Q1
         omega
        ·subst h3;exact hcS hiS
        ·obtain⟨oi,qi,pii,_,hqi,_⟩:=T.at bX
         have:=I.late T h3 bX hiS hqi
         rw[T.ZJ bX hqi this] at qU
         omega
     refine(T.aiO (aLV hck) (aLV A.lt) b Om fun j hj1 xJ q qi hq hqi hqw awB => ?_).symm
     obtain⟨pi',aBa,lA⟩:=At.pair T xJ A.lt hq A.ep
     rw[A.epi] at aBa
     cases aBa
     unfold Hh at lA
     rw[hqw,mN] at lA
     rcases lA with h | ⟨xa,xb,ha,xR,hun,PT⟩
     ·exfalso
      rw[Bl xJ] at h
      have hjS:=A.anc j h
      rcases aLh c j with h3 | h3
      ·rcases I.late T h3 (Nat.lt_trans xJ A.lt) hjS hq with h4 | h4<;>(rw[hqw] at h4;cases h4)
      ·have:j=c:=by omega
       subst this;exact hcS hjS
     ·rw[hx] at xR
      cases xR
      refine⟨xa,ha,fun e => ?_⟩
      have hk:=aLs.1 TU _ PT
      unfold Dp at hk
      rw[JR T (aLV xJ) (aLV A.lt) hun,e,hb] at hk
      simp at hk
    ·refine T.aiO hck I.Q1 b bH fun j hj1 xJ q qi hq hqi hqw awB => ?_
     have Xc:k<j:=by
      rcases aLh k j with h | h
      ·exact h
      ·have:j=k:=by omega
       subst this
       rw[A.ep] at hq
       cases hq
       rw[hqw] at mN
       cases mN
     have DY:j<ops.size:=aLg xJ I.Q1
     obtain⟨oj,q',qi',hoj,Pn,anF,aHF,_,vj,hvj,_⟩:=T.at DY
     rw[hq] at Pn
     cases Pn
     rw[hqi] at anF
     cases anF
     obtain⟨qi',anF,lA⟩:=At.pair T Xc DY A.ep hq
     rw[hqi] at anF
     cases anF
     unfold Hh at lA
     rw[hqw,mN] at lA
     rcases lA with h | ⟨xa,xb,ha,xR,hun,PT⟩
     ·exfalso
      rw[Bl Xc] at h
      exact A.desc j DY (I.before j q xJ hq hqw) h
     ·rw[hx] at ha
      cases ha
      refine⟨xb,xR,fun e => ?_⟩
      have aFv:qi.cf.all (Dp (st j).1)=true:=by
       rcases yI hvj with⟨h,_⟩ | ⟨_,h,_⟩
       ·rw[awB] at h;cases h
       ·exact h
      have hk:=aLs.1 aFv _ PT
      unfold Dp at hk
      rw[JR T (aLV Xc) (aLV DY) hun,e,hb] at hk
      simp at hk
  rw[key]
 ·exfalso
  rw[A.ok.op] at hp
  rcases vZ hp with⟨g,as,rfl⟩ | ⟨g,as,rfl⟩
  ·simp only[gW] at mN
   split at mN<;>rcases mN with h | h<;>cases h
  ·rcases mN with h | h<;>cases h
end
end Go.PM
namespace Go.PM
section
variable {P:Program} {E:Dj} {n:Nat} {ops:Array Oper} {xK:List PI} {ps:List qN} {M:List Nat} {call:iB} {lo L0:Nat} {st:Nat→Env×aH}
 {m0:dS} {w0:World} {ds:List Deferred}
theorem JG {H:aH} {b:Nat} (h:H.length≤b):¬Live H b:=fun hl=>by have:=hl.lt;omega
theorem aiI {S:Nat→Prop} {m:dS} {c:Nat} {a:Act} {w:World} {k:Nat} {o:Oper} (T:Text P E n ops xK ps M call lo st) (qO:AS P L0 call) (eT:L0≤lo) (Ci:L0≤(st 0).2.length)
  (D8:∀b,(st 0).2.length≤b→b<(st ops.size).2.length→m0 b=none) (I:vQ E n ops ps lo L0 st m0 w0 ds S m c a w) (ho:ops[k]? = some o) (hkS:¬S k)
  (hr:∀e∈o.after.toList,Region.binds .any e=true→S e.on) {K:Act→World→Prop} {Q:Exit→Act→World→Prop}
  (hK:∀m' c' a' w',vQ E n ops ps lo L0 st m0 w0 ds (fun i=>i=k∨S i) m' c' a' w'→K a' w'):wpOp P ops Q k K a w:=by
 have bH:k<ops.size:=(aLn.1 ho).1
 obtain⟨o',p,pi,ho',hp,hpi,CU,hdr,v,hv,he⟩:=T.at bH
 rw[ho] at ho'
 cases ho'
 have ho2:ops.toList[k]? = some o:=by simpa using ho
 have A:At P E n ops xK ps M S k o p pi:=⟨bH,ho,hp,hpi,CU,hdr,hkS,fun i hi=>T.anc I.back ho2 hr hi,fun i hi hS hb=>by
  have hio:ops.toList[i]? = some ops[i]:=by simp[hi]
  exact hkS (T.anc I.back hio (I.back i _ hio hS) hb)⟩
 have X2:=A.reads I
 have auY:=T.len (i:=0) (j:=c) (aLI _) I.Q1
 have aBJ:=T.len (i:=c) (j:=ops.size) I.Q1 (aLe _)
 have aBX:=T.len (i:=0) (j:=k) (aLI _) (aLV bH)
 have aFl:=T.len (i:=k+1) (j:=ops.size) bH (aLe _)
 have aEW:=T.aBp bH
 have hfk:∀b,(st k).2.length≤b→b<(st (k+1)).2.length→m b=none:=by
  intro b h1 h2
  cases hm:m b with
  | none=>rfl
  |
   some l =>
   exfalso
   rcases I.dom b l hm with h3 | ⟨i,hiS,bX,hi1,qU⟩
   ·exact h3 (D8 b (by omega) (by omega))
   ·rcases aLU i k with h3 | h3 | h3
    ·have:=T.len (i:=i+1) (j:=k) h3 (aLV bH)
     omega
    ·subst h3;exact hkS hiS
    ·have:=T.len (i:=k+1) (j:=i) h3 (aLV bX)
     omega
 have Ve:(gW E p = .pure∨gW E p = .look)→wpOp P ops Q k K a w:=by
  intro mN
  have hq:pi.quiet=false:=by
   rw[hdr.quiet]
   rcases mN with h | h<;>rw[h]
  have hw:gW E p ≠ .write:=by rcases mN with h | h<;>(rw[h];exact fun h=>by cases h)
  refine SL ho CU (fun h=>by rw[hq] at h;cases h) (I.look T A D8 mN hv) X2 I.rel eT (aLf Ci auY) (fun b h1 h2=>by omega) qO fun m' rv w' Yy hR hT => ?_
  rw[hq] at hT
  simp only[aLQ,if_false] at hT
  have hmm:m'=m:=by
   funext b
   cases hm:m b with
   | some l=>exact hT.ext b l hm
   |
    none =>
    cases hm':m' b with
    | none=>rfl
    | some l=>have:=(hT.new b l hm' hm).1;omega
  subst hmm
  refine hK m' c _ w' ⟨by rw[Jt];exact I.JO,by rw[I7];exact I.defs,I.amT A hr,I.QZ T A (fun _ _ h=>h) Yy he,I.Q1,fun i q h1 h2 h3 => .inr (I.before i q h1 h2 h3),?_,hR,?_,?_⟩
  ·intro h
   obtain⟨h1,q,h2,h3⟩:=I.atc h
   refine⟨fun hS=>hS.elim (fun e => ?_) h1,q,h2,h3⟩
   subst e
   rw[hp] at h2
   cases h2
   exact hw h3
  ·exact Trans.trans (fun b h1 h2=>D8 b h1 (by omega)) (T.amG (aLI _) I.Q1) (Ext.refl _ _) I.tr hT
  ·intro b l hb
   exact(I.dom b l hb).imp id fun⟨i,h1,h2⟩=>⟨i,.inr h1,h2⟩
 cases mN:gW E p with
 |
  write =>
  have hkc:k=c:=by
   rcases aLU k c with h | h | h
   ·exact absurd (I.before k p h hp mN) hkS
   ·exact h
   ·exfalso
    obtain⟨hcS,pc,hpc,TZ⟩:=I.atc (by omega)
    obtain⟨qi,_,lA⟩:=At.pair T h bH hpc hp
    unfold Hh at lA
    rw[TZ,mN] at lA
    simp only at lA
    rw[Bl h] at lA
    exact hcS (A.anc c lA)
  subst hkc
  refine SL ho CU (fun hq=>by rw[hdr.quiet,mN] at hq;cases hq) hv X2 I.rel eT (aLf Ci auY) hfk qO fun m' rv w' Yy hR hT => ?_
  have hq:pi.quiet=false:=by rw[hdr.quiet,mN]
  rw[hq] at hT
  simp only[aLQ,if_false] at hT
  obtain⟨c',hc1,hc2,hc3,hc4⟩:=IS (fun i=>∃q,ps[i]? = some q∧gW E q = .write) _ (k+1) ops.size rfl bH
  have QM:∀b,b<(st (k+1)).2.length→(st c').2[b]? = (st (k+1)).2[b]? := T.same hc1 hc2 fun i h1 h2 q hq hw=>hc3 i h1 h2 ⟨q,hq,hw⟩
  have aEg:=T.len hc1 hc2
  have aCP:=T.len (i:=c') (j:=ops.size) hc2 (aLe _)
  have aBD:∀b l,m' b=some l→m0 b≠none∨∃i,(i=k∨S i)∧i<ops.size∧(st i).2.length≤b∧b<(st (i+1)).2.length:=by
   intro b l hb
   cases hm:m b with
   | some l'=>exact(I.dom b l' hm).imp id fun⟨i,h1,h2⟩=>⟨i,.inr h1,h2⟩
   | none=>exact .inr ⟨k,.inl rfl,bH,(hT.new b l hb hm).1⟩
  have axG:∀b,(st (k+1)).2.length≤b→b<(st c').2.length→m' b=none:=by
   intro b h1 h2
   cases hm:m' b with
   | none=>rfl
   |
    some l =>
    exfalso
    rcases aBD b l hm with h3 | ⟨i,hiS,bX,hi1,qU⟩
    ·exact h3 (D8 b (by omega) (by omega))
    ·rcases aLU i k with h3 | h3 | h3
     ·have:=T.len (i:=i+1) (j:=k) h3 (aLV bH)
      omega
     ·subst h3;omega
     ·obtain⟨oi,qi,pii,_,hqi,_⟩:=T.at bX
      have:=I.late T h3 bX (hiS.resolve_left (by omega)) hqi
      rw[T.ZJ bX hqi this] at qU
      omega
  have hTT:Trans lo m0 (st 0).2 w0 m' (st (k+1)).2 w':=Trans.trans (fun b h1 h2=>D8 b h1 (by omega)) (T.amG (aLI _) (aLV bH)) (T.amG (Nat.le_succ _) bH) I.tr hT
  refine hK m' c' _ w' ⟨by rw[Jt];exact I.JO,by rw[I7];exact I.defs,I.amT A hr,I.QZ T A hT.ext Yy he,hc2,?_,?_,hR.grow QM axG,?_,aBD⟩
  ·intro i q hi hq hw
   rcases aLU i k with h | h | h
   ·exact .inr (I.before i q h hq hw)
   ·exact .inl h
   ·exact absurd ⟨q,hq,hw⟩ (hc3 i h hi)
  ·intro h
   obtain⟨q,hq,hw⟩:=hc4 h
   refine⟨fun hS => ?_,q,hq,hw⟩
   rcases hS with hS | hS
   ·omega
   ·rcases I.late T (by omega) h hS hq with h4 | h4<;>(rw[hw] at h4;cases h4)
  ·refine⟨hTT.ext,fun b l hb hn => ?_,hTT.size,hTT.cW,hTT.same⟩
   obtain⟨⟨h1,h2⟩,h3⟩:=hTT.new b l hb hn
   refine⟨⟨h1,by omega⟩,?_⟩
   rcases h3 with h3 | h3 | h3
   ·exact .inl h3
   ·exact .inr (.inl fun hl=>h3 ((kE (QM b h2)).1 hl))
   ·exact .inr (.inr h3)
 |
  quiet =>
  have hkc:k<c:=by
   rcases aLh k c with h | h
   ·exact h
   ·exfalso
    rcases aLh c k with h' | h'
    ·obtain⟨hcS,pc,hpc,TZ⟩:=I.atc (by omega)
     obtain⟨qi,_,lA⟩:=At.pair T h' bH hpc hp
     unfold Hh at lA
     rw[TZ,mN] at lA
     simp only at lA
     rw[Bl h'] at lA
     exact hcS (A.anc c lA)
    ·have:k=c:=by omega
     subst this
     obtain⟨_,pc,hpc,TZ⟩:=I.atc bH
     rw[hp] at hpc
     cases hpc
     rw[mN] at TZ
     cases TZ
  have acR:∀i,k<i→i<c→∀q,ps[i]? = some q→gW E q ≠ .write:=by
   intro i h1 h2 q hq hw
   have bX:i<ops.size:=aLg h2 I.Q1
   obtain⟨qi,_,lA⟩:=At.pair T h1 bX hp hq
   unfold Hh at lA
   rw[mN,hw] at lA
   simp only at lA
   rw[Bl h1] at lA
   exact A.desc i bX (I.before i q h2 hq hw) lA
  have NG:∀b,b<(st (k+1)).2.length→(st c).2[b]? = (st (k+1)).2[b]? := T.same hkc I.Q1 fun i h1 h2 q hq=>acR i h1 h2 q hq
  have hs0:∀b,b<(st k).2.length→(st c).2[b]? = (st k).2[b]? := T.same (aLV hkc) I.Q1 fun i h1 h2 q hq=>by
   rcases aLh k i with h | h
   ·exact acR i h h2 q hq
   ·have:i=k:=by omega
    subst this
    rw[hp] at hq
    cases hq
    rw[mN]
    exact fun h=>by cases h
  have aG0:=T.len (i:=k+1) (j:=c) hkc I.Q1
  refine SL ho CU (fun _=>mN) hv X2 (I.rel.restrict hs0) eT (aLf Ci aBX) hfk qO fun m' rv w' Yy hR hT => ?_
  have hq:pi.quiet=true:=by rw[hdr.quiet,mN]
  rw[hq] at hT
  simp only[if_true] at hT
  have Dl:∀rb,rb<w.heap.size→w'.heap[rb]? = w.heap[rb]? := fun rb BW=>hT.cW rb BW fun b l hb _ hl=>absurd hl (JG hb)
  have qB:∀b l,m' b=some l→m b=none→((st k).2.length≤b∧b<(st (k+1)).2.length)∧(w.heap.size≤l.rb∨¬Live (st (k+1)).2 b):=by
   intro b l h1 h2
   obtain⟨h3,h4⟩:=hT.new b l h1 h2
   refine⟨h3,?_⟩
   rcases h4 with h4 | h4 | ⟨b0,l0,g1,_,g3,_⟩
   ·exact .inl h4
   ·exact .inr h4
   ·exact absurd g3 (JG g1)
  have aCJ:∀b l,m b=some l→l.rb<w.heap.size:=by
   intro b l hb
   obtain⟨arr,e,fz,h1,_⟩:=I.rel.valid b l hb
   exact(aLn.1 h1).1
  have Zt:∀rb j,rb<w.heap.size→w'.cell? ⟨rb,j,none⟩=w.cell? ⟨rb,j,none⟩:=by
   intro rb j BW
   unfold World.cell?
   simp only[Dl rb BW]
  have Er:∀b l,m' b=some l→(st (k+1)).2.length≤b→m b=some l:=by
   intro b l hb h
   cases hm:m b with
   | some l'=>have:=hT.ext b l' hm;rw[hb] at this;exact this.symm
   | none=>have:=(qB b l hb hm).1.2;omega
  refine hK m' c _ w' ⟨by rw[Jt];exact I.JO,by rw[I7];exact I.defs,I.amT A hr,I.QZ T A hT.ext Yy he,I.Q1,fun i q h1 h2 h3 => .inr (I.before i q h1 h2 h3),?_,⟨hR.valid,?_,?_,?_⟩,?_,?_⟩
  ·intro h
   obtain⟨h1,q,h2,h3⟩:=I.atc h
   exact⟨fun hS=>hS.elim (fun e=>by omega) h1,q,h2,h3⟩
  ·intro b l cs e pp hm hb
   rcases aLh b (st (k+1)).2.length with h | h
   ·exact hR.row b l cs e pp hm (by rw[←NG b h];exact hb)
   ·have hmo:=Er b l hm h
    obtain⟨h1,h2,h3,h4⟩:=I.rel.row b l cs e pp hmo hb
    refine⟨h1,h2,h3,fun i hi => ?_⟩
    obtain⟨rv',g1,g2,g3⟩:=h4 i hi
    exact⟨rv',by rw[Zt _ _ (aCJ b l hmo)];exact g1,g2.mono hT.ext,g3⟩
  ·intro b1 b2 l1 l2 Dh h1 h2 Gy Kn BW
   have fresh:∀b b' l l',m' b=some l→m b=none→m b'=some l'→Live (st c).2 b→l.rb=l'.rb→False:=by
    intro b b' l l' g1 g2 g3 g4 g5
    obtain⟨⟨_,g6⟩,g7⟩:=qB b l g1 g2
    rcases g7 with g7 | g7
    ·have:=aCJ b' l' g3;omega
    ·exact g7 ((kE (NG b g6)).1 g4)
   cases Oj:m b1 with
   |
    some l1' =>
    cases Ym:m b2 with
    |
     some l2' =>
     have e1:l1'=l1:=by have:=hT.ext b1 l1' Oj;rw[h1] at this;injection this with this;exact this.symm
     have e2:l2'=l2:=by have:=hT.ext b2 l2' Ym;rw[h2] at this;injection this with this;exact this.symm
     subst e1 e2
     exact I.rel.inj b1 b2 _ _ Dh Oj Ym Gy Kn BW
    |
     none =>
     have e1:l1'=l1:=by have:=hT.ext b1 l1' Oj;rw[h1] at this;injection this with this;exact this.symm
     subst e1
     exact(fresh b2 b1 _ _ h2 Ym Oj Kn BW.symm).elim
   |
    none =>
    cases Ym:m b2 with
    |
     some l2' =>
     have e2:l2'=l2:=by have:=hT.ext b2 l2' Ym;rw[h2] at this;injection this with this;exact this.symm
     subst e2
     exact(fresh b1 b2 _ _ h1 Oj Ym Gy BW).elim
    |
     none =>
     have g1:=(qB b1 l1 h1 Oj).1.2
     have g2:=(qB b2 l2 h2 Ym).1.2
     exact hR.inj b1 b2 l1 l2 Dh h1 h2 ((kE (NG b1 g1)).1 Gy) ((kE (NG b2 g2)).1 Kn) BW
  ·intro x hx
   refine⟨(hR.Ff x hx).1,fun b l hb hm hl => ?_⟩
   obtain⟨⟨e0,fz0,q1⟩,q2⟩:=I.rel.Ff x hx
   cases Oj:m b with
   |
    some l' =>
    have e1:l'=l:=by have:=hT.ext b l' Oj;rw[hm] at this;injection this with this;exact this.symm
    subst e1
    exact q2 b l' hb Oj hl
   |
    none =>
    obtain⟨⟨_,g6⟩,g7⟩:=qB b l hm Oj
    rcases g7 with g7 | g7
    ·have:=(aLn.1 q1).1
     omega
    ·exact(g7 ((kE (NG b g6)).1 hl)).elim
  ·refine⟨fun b l hb=>hT.ext b l (I.tr.ext b l hb),fun b l hb hn => ?_,aLf I.tr.size hT.size,fun rb BW hk => ?_,hT.same.1.trans I.tr.same.1,hT.same.2.1.trans I.tr.same.2.1,hT.same.2.2.trans I.tr.same.2.2⟩
   ·cases hm:m b with
    |
     some l' =>
     have e1:l'=l:=by have:=hT.ext b l' hm;rw[hb] at this;injection this with this;exact this.symm
     subst e1
     exact I.tr.new b l' hm hn
    |
     none =>
     obtain⟨⟨g1,g2⟩,g3⟩:=qB b l hb hm
     refine⟨⟨by omega,by omega⟩,?_⟩
     rcases g3 with g3 | g3
     ·exact .inl (aLf I.tr.size g3)
     ·exact .inr (.inl fun hl=>g3 ((kE (NG b g2)).1 hl))
   ·rw[Dl rb (aLg BW I.tr.size),I.tr.cW rb BW hk]
  ·intro b l hb
   cases hm:m b with
   | some l'=>exact(I.dom b l' hm).imp id fun⟨i,h1,h2⟩=>⟨i,.inr h1,h2⟩
   | none=>exact .inr ⟨k,.inl rfl,bH,(qB b l hb hm).1⟩
 | pure=>exact Ve (.inl mN)
 | look=>exact Ve (.inr mN)
end
end Go.PM
namespace Go.PM
section
variable {P:Program} {E:Dj} {n:Nat} {call:iB} {lo L0:Nat}
theorem Trans.fresh {m m':dS} {H H1 H2:aH} {w w':World} (h:Trans lo m H w m' H1 w') (h1:H.length≤H1.length) (hf:∀b,H.length≤b→b<H2.length→m b=none):∀b,H1.length≤b→b<H2.length→m' b=none:=by
 intro b Dh hb2
 cases hm:m' b with
 | none=>rfl
 |
  some l =>
  exfalso
  have hn:=hf b (by omega) hb2
  have:=(h.new b l hm hn).1
  omega
structure La (n L0:Nat) (m:dS) (ρ:Env) (H:aH) (a:Act) (w:World):Prop where
 JO:a.tmps.size=n
 defs:a.defers=[]
 env:∀t,RV m (ρ t) (a.tmps.getD t undef)
 rel:Rel m L0 H w
theorem Rb {p q:Nat→Bool}:∀ {l:List Nat} {i:Nat},(∀x∈l,q x=true→p x=true)→i∈l→p i=true→q i=false→l.countP q<l.countP p
 |
  x::l,i,h,hi,hp,hq=>by
  rw[List.countP_cons,List.countP_cons]
  have hle:l.countP q≤l.countP p:=List.countP_mono_left fun x hx=>h x (aLN _ hx)
  rcases List.mem_cons.1 hi with rfl | hi
  ·rw[if_neg (by simp[hq]),if_pos hp];omega
  ·have:=Rb (fun x hx=>h x (aLN _ hx)) hi hp hq
   have:(if q x=true then 1 else 0)≤(if p x=true then 1 else 0):=by
    by_cases hqx:q x=true
    ·rw[if_pos hqx,if_pos (h x aLO hqx)];omega
    ·rw[if_neg hqx];omega
   omega
theorem OP {listed:Array Bool} {k i:Nat} (hk:k<listed.size):(listed.setIfInBounds k true).getD i false=true↔(i=k∨listed.getD i false=true):=by
 rcases aLh i listed.size with h | h
 ·by_cases e:i=k
  ·subst e;simp[h]
  ·simp[h,e,Ne.symm e]
 ·have:i≠k:=by omega
  simp[h,this]
theorem aqI {ops:Array Oper} {xK:List PI} {ps:List qN} {M:List Nat} {st:Nat→Env×aH} {m0:dS} {w0:World} (T:Text P E n ops xK ps M call lo st) (qO:AS P L0 call) (eT:L0≤lo) (Ci:L0≤(st 0).2.length)
  (D8:∀b,(st 0).2.length≤b→b<(st ops.size).2.length→m0 b=none) {Q:Exit→Act→World→Prop}
  (hQ:∀m' a' w',La n L0 m' (st ops.size).1 (st ops.size).2 a' w'→Trans lo m0 (st 0).2 w0 m' (st ops.size).2 w'→Q .normal a' w') :
  ∀(fuel:Nat) (listed:Array Bool) (m:dS) (c:Nat) (a:Act) (w:World),listed.size=ops.size→((aLa ops.size).countP fun i => !listed.getD i false)≤fuel →
  vQ E n ops ps lo L0 st m0 w0 [] (fun i=>listed.getD i false=true) m c a w→wpAny P .any ops Q fuel listed a w:=by
 have fin:∀(listed:Array Bool) (m:dS) (c:Nat) (a:Act) (w:World),listed.size=ops.size→(Region.ready .any ops listed=[])→vQ E n ops ps lo L0 st m0 w0 [] (fun i=>listed.getD i false=true) m c a w→Q .normal a w:=by
  intro listed m c a w hs hr I
  have all:∀i,i<ops.size→listed.getD i false=true:=by
   intro i
   induction i using Nat.strongRecOn with
   |
    _ i ih =>
    intro hi
    cases hl:listed.getD i false with
    | true=>rfl
    |
     false =>
     exfalso
     obtain⟨o,p,pi,ho,_,_,_,hdr,_⟩:=T.at hi
     have:i∈Region.ready .any ops listed:=by
      rw[mem_ready]
      refine⟨?_,o,ho,fun e he hb => ?_⟩
      ·have XB:i<listed.size:=by omega
       simpa[XB] using hl
      ·have:=hdr.back e (by simpa using he) hb
       exact ih e.on this (by omega)
     rw[hr] at this
     cases this
  have hcN:c=ops.size:=by
   rcases aLh c ops.size with h | h
   ·exact absurd (all c h) (I.atc h).1
   ·have:=I.Q1;omega
  subst hcN
  exact hQ m a w ⟨I.JO,I.defs,fun t=>I.tm t ops.size (aLe _) fun i o hi _=>⟨fun _=>IL hi,fun h=>all i h⟩,I.rel⟩ I.tr
 intro fuel
 induction fuel with
 |
  zero =>
  intro listed m c a w hs hc I
  have hr:Region.ready .any ops listed=[]:=by
   rw[List.eq_nil_iff_forall_not_mem]
   intro i hi
   have qK:=mem_ready.1 hi
   obtain⟨h1,o,ho,_⟩:=qK
   have bH:i<ops.size:=(aLn.1 ho).1
   have h0:((aLa ops.size).countP fun i => !listed.getD i false)=0:=by omega
   rw[List.countP_eq_zero] at h0
   have:=h0 i (aLP.2 bH)
   have XB:i<listed.size:=by omega
   simp[XB] at this h1
   rw[h1] at this
   cases this
  exact⟨hr,fin listed m c a w hs hr I⟩
 |
  succ fuel ih =>
  intro listed m c a w hs hc I
  refine⟨fun hr=>fin listed m c a w hs hr I,fun k hk => ?_⟩
  obtain⟨h1,o,ho,hb⟩:=mem_ready.1 hk
  have bH:k<ops.size:=(aLn.1 ho).1
  have hkl:k<listed.size:=by omega
  have hkf:listed.getD k false=false:=by simpa[hkl] using h1
  refine aiI T qO eT Ci D8 I ho (by rw[hkf];exact fun h=>by cases h) (fun e he hbd=>hb e (by simpa using he) hbd) fun m' c' a' w' I'=>ih _ m' c' a' w' (by simpa using hs) ?_ ?_
  ·have:((aLa ops.size).countP fun i => !(listed.setIfInBounds k true).getD i false)<((aLa ops.size).countP fun i => !listed.getD i false):=by
    refine Rb (i:=k) (fun x _ hx => ?_) (aLP.2 bH) (by rw[hkf];rfl) ?_
    ·cases hlx:listed.getD x false with
     | false=>rfl
     |
      true =>
      have:=(OP (i:=x) hkl).2 (.inr hlx)
      rw[this] at hx
      cases hx
    ·rw[(OP hkl).2 (.inl rfl)];rfl
   omega
  ·have e:(fun i=>(listed.setIfInBounds k true).getD i false=true)=fun i=>i=k∨listed.getD i false=true:=by
    funext i
    exact propext (OP hkl)
   rw[e]
   exact I'
theorem Rel.drew {m:dS} {H:aH} {w w':World} (h:Rel m L0 H w) (hw:w'.heap=w.heap):Rel m L0 H w':=by
 have hc:∀x,w'.cell? x=w.cell? x:=fun x=>by unfold World.cell?;rw[hw]
 refine⟨fun b l hb=>by rw[hw];exact h.valid b l hb,fun b l cs e p hm hb => ?_,h.inj,fun x hx=>⟨by rw[hw];exact(h.Ff x hx).1,(h.Ff x hx).2⟩⟩
 obtain⟨h1,h2,h3,h4⟩:=h.row b l cs e p hm hb
 refine⟨h1,h2,h3,fun i hi => ?_⟩
 rw[hc]
 exact h4 i hi
theorem YL {id:Nat} {ops:Array Oper} {draw:Bool} {xK:List PI} (F2:P.follows .mixedOrders=true) (qO:AS P L0 call) (vA:vJ call) (hp:By P E n ops draw=some xK) {ρ aP:Env} {H H':aH}
  (hv:jB call lo xK ρ H=some (aP,H')) {m:dS} {a:Act} {w:World} (h:La n L0 m ρ H a w) (eT:L0≤lo) (hlen:L0≤H.length) (hf:∀b,H.length≤b→b<H'.length→m b=none) {Q:Exit→Act→World→Prop}
  (hQ:∀m' a' w',La n L0 m' aP H' a' w'→Trans lo m H w m' H' w'→Q .normal a' w'):(Code.region id ops draw).wp P Q a w:=by
 obtain⟨ps,M,CU⟩:=Nc hp
 obtain⟨st,hs0,hsn,xI⟩:=JX hv
 have hN:xK.length=ops.size:=by rw[CU.aFD];simp
 rw[hN] at hsn
 cases draw with
 |
  true =>
  have T:Text P E n ops xK ps M call lo st:=⟨CU,vA,xI⟩
  apply wp_region_any F2
  have e0:(st 0).1=ρ:=by rw[hs0]
  have e1:(st 0).2=H:=by rw[hs0]
  have e2:(st ops.size).1=aP:=by rw[hsn]
  have e3:(st ops.size).2=H':=by rw[hsn]
  obtain⟨c,hc1,hc2,hc3,hc4⟩:=IS (fun i=>∃q,ps[i]? = some q∧gW E q = .write) _ 0 ops.size rfl (aLI _)
  have QM:=T.same hc1 hc2 fun i h1 h2 q hq hw=>hc3 i h1 h2 ⟨q,hq,hw⟩
  have aBJ:=T.len hc1 hc2
  have aCP:=T.len (i:=c) (j:=ops.size) hc2 (aLe _)
  have hgr:=h.rel.grow (by rw[←e1];exact QM) (fun b h1 h2=>hf b h1 (by rw[←e3];omega))
  have anA:∀i,(Array.replicate ops.size false).getD i false=true→False:=by
   intro i hi
   rcases aLh i ops.size with h | h<;>simp[h] at hi
  refine aqI (m0:=m) (w0:=w) T qO eT (by rw[e1];exact hlen) (by rw[e1,e3];exact hf) (by rw[e1,e2,e3];exact hQ) ops.size _ m c a _ (by simp) (aLf List.countP_le_length (by simp)) ?_
  refine⟨h.JO,h.defs,fun i o _ hi=>(anA i hi).elim,fun t j hj hw => ?_,hc2,fun i q hi hq hw=>absurd ⟨q,hq,hw⟩ (hc3 i (aLI _) hi),fun hc=>⟨fun h=>anA _ h,hc4 hc⟩,hgr.drew rfl,?_,fun b l hb => .inl (by rw[hb];exact fun h=>by cases h)⟩
  ·have e:(st j).1 t=ρ t:=by
    rw[←e0]
    refine T.S8 (aLI _) hj fun i oi _ qU hoi hd => ?_
    have Ur:ops.toList[i]? = some oi:=by simpa using hoi
    exact(anA i ((hw i oi Ur hd).2 qU)).elim
   rw[e]
   exact h.env t
  ·rw[e1]
   refine⟨fun _ _ h=>h,fun b l hb hn=>(by rw[hb] at hn;cases hn),aLe _,fun _ _ _=>rfl,rfl,rfl,rfl⟩
 |
  false =>
  apply wp_region
  have key:∀d i,ops.size-i=d→i≤ops.size→∀m1 a1 w1,La n L0 m1 (st i).1 (st i).2 a1 w1→L0≤(st i).2.length→(∀b,(st i).2.length≤b→b<H'.length→m1 b=none) →
    (∀m' a' w',La n L0 m' aP H' a' w'→Trans lo m1 (st i).2 w1 m' H' w'→Q .normal a' w')→wpOps P ops Q ((aLa ops.size).drop i) a1 w1:=by
   intro d
   induction d with
   |
    zero =>
    intro i hd hi m1 a1 w1 h1 _ _ hQ1
    have:i=ops.size:=by omega
    subst this
    rw[List.drop_eq_nil_of_le (by simp)]
    rw[hsn] at h1 hQ1
    exact hQ1 m1 a1 w1 h1 (Trans.refl _ _ _ _)
   |
    succ d ih =>
    intro i hd hi m1 a1 w1 h1 Gy hf1 hQ1
    have bH:i<ops.size:=by omega
    rw[List.drop_eq_getElem_cons (by simpa using bH),wpOps_cons]
    have ho:ops.toList[i]? = some ops[i]:=by simp[bH]
    obtain⟨p,pi,Xj,hp2,azT,_,hdr⟩:=CU.each i _ ho
    have Cd:=xI i pi hp2
    obtain⟨v,hv1,hv2⟩:=BH Cd
    have hq:pi.quiet=false:=(hdr rfl).1
    have hE1:=KH vA Cd
    have hE2:Ext lo (st (i+1)).2 H':=by
     have:∀d j,ops.size-j=d→j≤ops.size→Ext lo (st j).2 H':=by
      intro d
      induction d with
      | zero =>
        intro j hd hj;have:j=ops.size:=by omega
        subst this;rw[hsn];exact Ext.refl _ _
      |
       succ d ih =>
       intro j hd hj
       have hjl:j<xK.length:=by omega
       exact(KH vA (xI j xK[j] (aLl hjl))).trans (ih (j+1) (by omega) (by omega))
     exact this _ (i+1) rfl bH
    have G0:(aLa ops.size)[i]'(by simpa using bH)=i:=by simp
    rw[G0]
    refine SL (by simp[bH]) azT (fun h=>by rw[hq] at h;cases h) hv1 (fun t _=>h1.env t) h1.rel eT Gy (fun b Dh hb2=>hf1 b Dh (aLg hb2 hE2.len)) qO fun m' rv w' Yy hR hT => ?_
    rw[hq] at hT
    simp only[aLQ,if_false] at hT
    refine ih (i+1) (by omega) bH m' _ w' ⟨by rw[Jt];exact h1.JO,by rw[I7];exact h1.defs,fun t => ?_,hR⟩ (aLf Gy hE1.len) (hT.fresh hE1.len hf1) fun m2 a2 w2 h2 Rg=>hQ1 m2 a2 w2 h2 (Trans.trans hf1 hE1 hE2 hT Rg)
    rw[hv2,azT.dst]
    cases hd:ops[i].dst with
    | none=>exact(h1.env t).mono hT.ext
    |
     some d =>
     rw[VY (by rw[h1.JO];exact azT.bound d hd)]
     show RV m' (if t=d then v else (st i).1 t) _
     by_cases e:t=d
     ·rw[if_pos e,if_pos e];exact Yy
     ·rw[if_neg e,if_neg e];exact(h1.env t).mono hT.ext
  have:=key ops.size 0 (by omega) (aLI _) m a w (by rw[hs0];exact h) (by rw[hs0];exact hlen) (by rw[hs0];exact hf) (by rw[hs0];exact hQ)
  simpa using this
end
end Go.PM