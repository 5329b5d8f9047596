/- Texts of a claim, in one: part 2. -/
import Derived.LoopN
import Derived.Test.YtjmflicajplclaaGreatDoorKDa
open Array renaming getElem?_eq_none → aKZ,getElem?_eq_some_iff → aKu,range → aKO,toList_inj → aKB
open Bool renaming and_eq_true → aKT,false_eq_true → aKX,or_eq_true → aKY
open Function renaming comp_def → aKA
open List renaming all_eq_true → aKz,eq_nil_of_length_eq_zero → aKr,getD_eq_getElem?_getD → aKi,getElem?_append_left → aKC,getElem?_eq_getElem → aKs,getElem?_eq_some_iff → aKk,getElem?_set_ne → aKK,mem_cons_of_mem → aKU,mem_cons_self → aKV,mem_range → aKW,range → aKh
open Nat renaming add_mul → aKQ,le_mul_of_pos_right → aKR,le_of_lt → aK2,le_refl → aKl,le_trans → aKm,lt_of_lt_of_le → aKn,lt_or_ge → aKo,lt_trichotomy → aK1,min → aKS,mod_lt → aKN,mul_le_mul_right → aKM,zero_le → aKP
open Option renaming isSome_none → aK0
set_option linter.unusedSimpArgs false
set_option linter.unusedVariables false
namespace Go.PM
section
variable {P:Program} {m:dL} {L0:Nat} {H:aJ} {w:World}
theorem RL.const {zs:List Value} (h:zs.all mQ=true):RL m zs zs :=
 ⟨rfl,fun j hj=>by
  have:=RV.const (m:=m) (aKz.1 h _ (List.getElem_mem hj))
  simpa[aKi,aKs hj] using this⟩
theorem yN (n:Nat) (zs:List Value):(dG n zs).length=n*zs.length:=by simp[dG]
theorem AD (n:Nat) {zs:List Value} (h:zs.all mQ=true) (h0:1≤zs.length):RL m (dG n zs) (dG n zs):=by
 refine⟨rfl,fun i hi => ?_⟩
 rw[yN] at hi
 have bF:i % zs.length<zs.length:=aKN _ h0
 have e:(dG n zs).getD i undef=zs.getD (i % zs.length) undef:=by simp[dG,aKi,hi]
 rw[e]
 exact(RL.const h).2 _ bF
theorem Wt (n:Nat) {zs:List Value} (h:zs.all iQ=true) (h0:1≤zs.length):(dG n zs).all iQ=true:=by
 rw[aKz]
 intro x hx
 obtain⟨i,_,rfl⟩:=List.mem_map.1 hx
 have bF:i % zs.length<zs.length:=aKN _ h0
 have:=aKz.1 h _ (List.getElem_mem bF)
 simpa[aKi,aKs bF] using this
theorem Me (z:Array Value) (n:Nat) (h0:1≤z.size):(madeCells z (n*z.size)).toList=dG n z.toList:=by
 apply List.ext_getElem
 ·simp[madeCells,dG]
 ·intro i h1 h2
  have bF:i % z.size<z.size:=aKN _ h0
  simp[madeCells,dG,bF]
theorem I2 (z:Array Value) (n:Nat) (h0:1≤z.size):(Builtin.zeroCells z n).toList=dG n z.toList:=by
 apply List.ext_getElem
 ·simp[Builtin.zeroCells,dG]
 ·intro i h1 h2
  have bF:i % z.size<z.size:=aKN _ h0
  simp[Builtin.zeroCells,dG,bF]
theorem ajD {t:TypeId} {agg:Bool} {size nb lo:Nat} {z:List Value} (ht:oM P t=some (agg,size,z,nb)) (KV:z.all iQ=true) (Nq:z.all mQ=true) (hR:Rel m L0 H w) (hf:m H.length=none) :
  cQ P (do pure (.value (←Instr.alloc t true (.tuple #[])))) L0 lo m H w (.pointer (some ⟨H.length,0,none⟩)) (H++[.row z z.length false]):=by
 obtain⟨i,d,zz,hi,hd,Kt,rfl,rfl,rfl,rfl⟩:=kL ht
 have sN:(Instr.alloc t true (.tuple #[])).run P w = .ok (.pointer (some ⟨w.heap.size,0,none⟩)) (w.alloc (.cells zz.cells t)):=by
  simp[Instr.alloc,zeroValue,typeInfo,hi,Kt,newVar,newRow]
 have hA:=AI hR hf (w':=w.alloc (.cells zz.cells t)) (arr:=zz.cells) (e:=t) (fz:=(0,0)) rfl ⟨rfl,rfl,rfl⟩ (cs:=aV zz) (gV:=(aV zz).length) (Wb:=false)
  (by rw[fP];exact aKl _) (fun i hi=>by
   have:=(RL.const (m:=m) Nq).2 i hi
   rwa [←B4,hJ]) KV (fun j _ h=>by simp at h)
 exact cQ.value sN (.ptr _ 0 _ (bZ m _ _)) hA.1 (hA.2 lo)
theorem amB {t:TypeId} {v r:Value} {lo:Nat} (hv:RV m v r) (hs:(aV v).all iQ=true) (hR:Rel m L0 H w) (hf:m H.length=none) :
  cQ P (do pure (.value (←Instr.box t r))) L0 lo m H w (.pointer (some ⟨H.length,0,none⟩)) (H++[.row (aV v) (aV v).length false]):=by
 have sN:(Instr.box t r).run P w = .ok (.pointer (some ⟨w.heap.size,0,none⟩)) (w.alloc (.cells r.cells t)):=by
  simp[Instr.box,newVar,newRow]
 have hA:=AI hR hf (w':=w.alloc (.cells r.cells t)) (arr:=r.cells) (e:=t) (fz:=(0,0)) rfl ⟨rfl,rfl,rfl⟩ (cs:=aV v) (gV:=(aV v).length) (Wb:=false)
  (by rw[fP,hv.aV.1];exact aKl _) (fun i hi=>by
   have:=hv.aV.2 i hi
   rwa [←B4,hJ]) hs (fun j _ h=>by simp at h)
 exact cQ.value sN (.ptr _ 0 _ (bZ m _ _)) hA.1 (hA.2 lo)
theorem acU {t:TypeId} {agg:Bool} {size nb lo:Nat} {z:List Value} {kl kc:IntKind} {l c:Int} (ht:lU P t=some (agg,size,z,nb)) (KV:z.all iQ=true) (Nq:z.all mQ=true) (ZE:size=z.length) (Ch:1≤size)
  (hl:0≤l) (hlc:l≤c) (hb:c*nb≤281474976710656) (hc:c≤9223372036854775807) (hR:Rel m L0 H w) (hf:m H.length=none) :
  cQ P (do pure (.value (←Instr.makeSlice t (.int kl l) (.int kc c)))) L0 lo m H w (.slice (some ⟨H.length,0,none⟩) l.toNat c.toNat) (H++[.row (dG c.toNat z) z.length false]):=by
 obtain⟨e,hu,Lv⟩:=lC ht
 obtain⟨i,d,zz,hi,hd,Kt,rfl,rfl,rfl,rfl⟩:=kL Lv
 have sN:=run_make (P:=P) w t e i zz hu hi Kt kl kc l c hl hlc (by rw[Int.mul_comm];exact hb) hc
 have DO:i.size=zz.cells.size:=by rw[ZE,fP]
 rw[DO] at sN Ch
 have rB:(madeCells zz.cells (c.toNat*zz.cells.size)).toList=dG c.toNat (aV zz):=by rw[Me _ _ Ch,hJ]
 have aBz:(madeCells zz.cells (c.toNat*zz.cells.size)).size=c.toNat*(aV zz).length:=by rw[size_madeCells,fP]
 have abM:1≤(aV zz).length:=by rw[←fP];exact Ch
 have hA:=AI hR hf (w':=w.alloc (.cells (madeCells zz.cells (c.toNat*zz.cells.size)) e)) (arr:=madeCells zz.cells (c.toNat*zz.cells.size)) (e:=e) (fz:=(0,0)) rfl ⟨rfl,rfl,rfl⟩
  (cs:=dG c.toNat (aV zz)) (gV:=(aV zz).length) (Wb:=false) (by rw[aBz,yN];exact aKl _) (fun j hj=>by
   have:=(AD (m:=m) c.toNat Nq abM).2 j hj
   rwa [←B4,rB]) (Wt _ KV abM) (fun j _ h=>by simp at h)
 refine cQ.value sN ?_ hA.1 (hA.2 lo)
 exact .slice _ 0 _ _ _ _ _ (bZ m _ _) (by omega) (aKl _) (fun _=>rfl) (.inr ⟨rfl,by simp only[aBz];omega⟩)
theorem aoD {t:TypeId} {agg:Bool} {size nb lo n:Nat} {z cs:List Value} {parts:List (Nat×Operand)} {ρ:Env} {a:Act} (ht:lU P t=some (agg,size,z,nb)) (KV:z.all iQ=true) (Nq:z.all mQ=true) (ZE:size=z.length) (Ch:1≤size) (hn:n*size≤16777216)
  (auM:Ai ((aKh n).map fun i=>(i*z.length,z.length)) (dG n z) (parts.map fun(i,x)=>(i,ev ρ x))=some cs) (BQ:cs.all iQ=true) (hr:∀p∈parts,RV m (ev ρ p.2) (a.eval p.2))
  (hR:Rel m L0 H w) (hf:m H.length=none) :
  cQ P (do pure (.value (←Instr.buildSlice t n (parts.toArray.map fun(i,x)=>(i,a.eval x))))) L0 lo m H w (.slice (some ⟨H.length,0,none⟩) n n) (H++[.row cs z.length false]):=by
 obtain⟨e,hu,Lv⟩:=lC ht
 obtain⟨i,d,zz,hi,hd,Kt,rfl,rfl,rfl,rfl⟩:=kL Lv
 have DO:i.size=zz.cells.size:=by rw[ZE,fP]
 have abM:1≤(aV zz).length:=by rw[←fP,←DO];exact Ch
 have PW:∀j q,((aKh n).map fun i=>(i*(aV zz).length,(aV zz).length))[j]? = some q→(fun i'=>some (i'*i.size,i.size):Nat→Option (Nat×Nat)) j=some q:=by
  intro j q hj
  simp only[List.getElem?_map,Option.map_eq_some_iff] at hj
  obtain⟨k,hk,rfl⟩:=hj
  have hk':=(aKk.1 hk)
  obtain⟨hk1,Zd⟩:=hk'
  simp at Zd
  subst Zd
  rw[←ZE]
 have hz:RL m (dG n (aV zz)) ((aKO (n*i.size)).map (zz.cells[· % zz.cells.size]!)).toList:=by
  have:=AD (m:=m) n Nq abM
  rw[DO]
  have e1:=Me zz.cells n (by rw[←DO];exact Ch)
  rw[hJ] at e1
  show RL m _ (madeCells zz.cells (n*zz.cells.size)).toList
  rw[e1]
  exact this
 obtain⟨OK,h1,h2⟩:=VA (m:=m) _ _ PW (parts.map fun(i,x)=>(i,ev ρ x)) (parts.map fun(i,x)=>(i,a.eval x)) _ _ cs
  (by simp[aKA]) (by simpa[aKA] using RL.map (l:=parts) (f:=fun p=>ev ρ p.2) (g:=fun p=>a.eval p.2) hr) hz auM
 have hlen:cs.length=n*(aV zz).length:=by rw[Sz _ _ _ _ auM,yN]
 have emap:(Array.map (fun x:Nat×Operand=>(x.1,a.eval x.2)) parts.toArray).toList=parts.map fun(i,x)=>(i,a.eval x):=by simp
 have XT:¬(2^24<n*i.size):=by omega
 have sN:(Instr.buildSlice t n (parts.toArray.map fun(i,x)=>(i,a.eval x))).run P w = .ok (.slice (some ⟨w.heap.size,0,none⟩) n n) (w.alloc (.cells OK e)):=by
  have h1':Instr.fill (fun i'=>some (i'*i.size,i.size)) ((aKO (n*i.size)).map (zz.cells[· % zz.cells.size]!)) (Array.map (fun x:Nat×Operand=>(x.1,a.eval x.2)) parts.toArray).toList=some OK:=by rw[emap];exact h1
  by_cases hn0:n*i.size=0
  ·rw[hn0] at h1'
   simp only[show ∀f:Nat→Value,(aKO 0).map f = #[] from fun f=>by simp] at h1'
   unfold Instr.buildSlice
   simp only[Sem.run_bind,run_underlying hu,Result.andThen_ok,run_sizeOf e i hi,hn0,if_true,Sem.run_pure,show ¬(0>2^24) by omega,if_false]
   rw[show ∀f:Nat→Value,(aKO 0).map f = #[] from fun f=>by simp]
   simp only[h1']
   simp[newRow]
  ·unfold Instr.buildSlice
   simp only[Sem.run_bind,run_underlying hu,Result.andThen_ok,run_sizeOf e i hi,hn0,if_false,Sem.run_pure,gt_iff_lt,XT,zeroValue,typeInfo,run_program,hi,Kt]
   simp only[h1']
   simp[newRow]
 have hrs:OK.size=n*(aV zz).length:=by rw[←hlen];simpa using h2.1.symm
 have hA:=AI hR hf (w':=w.alloc (.cells OK e)) (arr:=OK) (e:=e) (fz:=(0,0)) rfl ⟨rfl,rfl,rfl⟩ (cs:=cs) (gV:=(aV zz).length) (Wb:=false)
  (by rw[hlen,hrs];exact aKl _) (fun j hj=>by rw[←B4];exact h2.2 j hj) BQ (fun j _ h=>by simp at h)
 refine cQ.value sN ?_ hA.1 (hA.2 lo)
 exact .slice _ 0 _ _ _ _ _ (bZ m _ _) (aKl _) (aKl _) (fun _=>rfl) (.inr ⟨rfl,by simp only[hrs];omega⟩)
theorem Yq (g:Value→ByteArray→Sem (ForInStep ByteArray)) (hg:∀n s,g (.int .u8 n) s=pure (ForInStep.yield (s.push (UInt8.ofNat n.toNat)))):∀(cs rs:List Value) (bs:List UInt8) (acc:ByteArray),RL m cs rs→xZ cs=some bs→∀w,
  (forIn rs acc g).run P w = .ok ⟨(acc.data.toList++bs).toArray⟩ w:=by
 intro cs
 induction cs with
 |
  nil =>
  intro rs bs acc hr hb w
  have e0:rs=[]:=aKr hr.1.symm
  subst e0
  cases hb
  simp
 |
  cons c cs ih =>
  intro rs bs acc hr hb w
  cases rs with
  | nil=>exact absurd hr.1 (by simp)
  |
   cons r rs =>
   obtain⟨hc,MD⟩:=hr.lP
   unfold xZ at hb
   split at hb
   ·rename_i heq;cases heq
   ·rename_i n rest heq
    cases heq
    cases hc
    cases h2:xZ cs with
    | none=>rw[h2] at hb;cases hb
    |
     some bs' =>
     rw[h2] at hb
     cases hb
     simp only[List.forIn_cons,hg,Sem.run_bind,Sem.run_pure,Result.andThen_ok]
     rw[ih rs bs' _ MD h2 w]
     simp[ByteArray.push]
   ·cases hb
theorem ajJ {s d e:TypeId} {rp:Value} {lo n b off c:Nat} {cs:List Value} {bs:List UInt8} (hs:P.underlying s=some (.slice e)) (hd:P.underlying d=some .string) (he:P.underlying e=some (.int .u8))
  (Hm:H.read b off n=some cs) (hb:xZ cs=some bs) (hR:Rel m L0 H w) (hp:RV m (.slice (some ⟨b,off,none⟩) n c) rp) :
  cQ P (do pure (.value (←convert s d rp))) L0 lo m H w (.string ⟨bs.toArray⟩) H:=by
 cases hp with
 |
  slice _ _ _ _ l ra rc hm hn hc hx ha =>
  obtain⟨rs,h1,h2,_,h3⟩:=A5 hR hm Hm
  have aBu:(loadCells ra n).run P w = .ok rs.toArray w:=by
   rcases ha with ha | ⟨rfl,ha⟩
   ·have h0:n=0:=by omega
    subst h0
    have e0:rs=[]:=aKr h2
    subst e0
    rfl
   ·rw[←h2]
    exact run_loadCells_list w _ rs h3
  refine cQ.value (rv := .string ⟨bs.toArray⟩) (w':=w) (m':=m) ?_ (.str _) hR (Trans.refl lo m H w)
  simp only[convert,Sem.run_bind,run_underlying hs,run_underlying hd,Result.andThen_ok,run_underlying he,Conv.bytesToString,aBu,←Array.forIn_toList]
  rw[Yq (P:=P) (m:=m) _ (fun n s=>rfl) cs rs bs ByteArray.empty h1 hb w]
  simp
theorem RU {t e:TypeId} {i:TypeInfo} (hu:P.underlying t=some (.slice e)) (hi:P.info? e=some i) {a:Option Addr} {n c:Nat} {lo qM mx:Option Value} {l h k:Nat}
  (hb:(Instr.sliceBounds true n c lo qM mx).run P w = .ok (l,h,k) w) :
  (Instr.sliceAt t (.slice a n c) lo qM mx).run P w = .ok (.slice (if k=l then a else a.map (·.add (l*i.size))) (h-l) (k-l)) w:=by
 have h1:(Instr.sliceAt t (.slice a n c) lo qM mx).run P w=(Instr.slice t (.slice a n c) lo qM mx).run P w:=by
  unfold Instr.sliceAt
  rw[Sem.run_bind,run_underlying hu,Result.andThen_ok]
 rw[h1]
 unfold Instr.slice
 rw[Sem.run_bind,run_underlying hu,Result.andThen_ok]
 simp[hb,run_sizeOf e i hi]
theorem alV {t e:TypeId} {i:TypeInfo} {lo:Nat} {x rx v:Value} {l h mx l' h' mx':Option Value} {H':aJ} (hu:P.underlying t=some (.slice e)) (hi:P.info? e=some i)
  (hs:EN i.size x l h mx H=some (v,H')) (hx:RV m x rx) (hl:RO m l l') (hh:RO m h h') (hm:RO m mx mx') (hR:Rel m L0 H w) (hf:∀b,H.length≤b→b<H'.length→m b=none) :
  cQ P (do pure (.value (←Instr.sliceAt t rx l' h' mx'))) L0 lo m H w v H':=by
 unfold EN at hs
 split at hs
 ·rename_i n c
  split at hs
  ·rename_i h0
   obtain⟨rfl,rfl⟩:=h0
   cases hx
   split at hs
   ·cases hs
   ·rename_i M hM
    split at hs
    ·cases hs
    ·rename_i hb hhb
     split at hs
     ·cases hs
     ·rename_i lb Hy
      cases hs
      have key:∃k1 k2 k3,(Instr.sliceBounds true 0 0 l' h' mx').run P w = .ok (k1,k2,k3) w∧k1=0∧k2=0∧k3=0:=by
       rcases rG (P:=P) hM hm with⟨rfl,rfl,e1⟩ | ⟨_,r1,rfl,rfl,q1,e1⟩<;>rcases rG (P:=P) hhb hh with⟨_,rfl,e2⟩ | ⟨_,r2,_,rfl,q2,e2⟩<;>rcases rG (P:=P) Hy hl with⟨_,rfl,e3⟩ | ⟨_,r3,_,rfl,q3,e3⟩
       ·cases e1;cases e2;cases e3
        exact⟨0,0,0,rfl,rfl,rfl,rfl⟩
       ·cases e1;cases e2
        exact⟨lb,0,0,by simp[Instr.sliceBounds,e3 0 (aKl _)],by omega,rfl,rfl⟩
       ·cases e1;cases e3
        exact⟨0,hb,0,by simp[Instr.sliceBounds,e2 0 (aKl _)],rfl,by omega,rfl⟩
       ·cases e1
        exact⟨lb,hb,0,by simp[Instr.sliceBounds,e2 0 (aKl _),e3 hb (aKl _)],by omega,by omega,rfl⟩
       ·cases e2
       ·cases e2
       ·cases e3
        exact⟨0,hb,M,by simp[Instr.sliceBounds,e1 0 (aKl _),e2 M (aKl _)],rfl,by omega,by omega⟩
       ·exact⟨lb,hb,M,by simp[Instr.sliceBounds,e1 0 (aKl _),e2 M (aKl _),e3 hb (aKl _)],by omega,by omega,by omega⟩
      obtain⟨k1,k2,k3,hk,rfl,rfl,rfl⟩:=key
      exact cQ.value (RU hu hi hk) (by simpa using RV.M8) hR (Trans.refl lo m H w)
  ·cases hs
 ·rename_i b o n c
  cases hx with
  |
   slice _ _ _ _ lc ra rc WX hnc hcr hxp ha =>
   split at hs
   ·rename_i cells es p hbk
    obtain⟨g1,g2,g3,g4⟩:=hR.row b lc cells es p WX hbk
    split at hs
    ·rename_i Qr
     subst Qr
     split at hs
     ·cases hs
     ·rename_i M hM
      split at hs
      ·cases hs
      ·rename_i hb hhb
       split at hs
       ·cases hs
       ·rename_i lb Hy
        have key:∃k3,(Instr.sliceBounds true n rc l' h' mx').run P w = .ok (lb,hb,k3) w∧lb≤hb∧hb≤M∧M≤c∧((mx=none∧k3=rc∧M=c)∨(mx.isSome=true∧k3=M)):=by
         rcases rG (P:=P) hM hm with⟨rfl,rfl,e1⟩ | ⟨_,r1,rfl,rfl,q1,e1⟩<;>rcases rG (P:=P) hhb hh with⟨_,rfl,e2⟩ | ⟨_,r2,_,rfl,q2,e2⟩<;>rcases rG (P:=P) Hy hl with⟨_,rfl,e3⟩ | ⟨_,r3,_,rfl,q3,e3⟩
         ·cases e1;cases e2;cases e3
          exact⟨rc,rfl,aKP _,hnc,aKl _,.inl ⟨rfl,rfl,rfl⟩⟩
         ·cases e1;cases e2
          exact⟨rc,by simp[Instr.sliceBounds,e3 n (aKl _)],q3,hnc,aKl _,.inl ⟨rfl,rfl,rfl⟩⟩
         ·cases e1;cases e3
          exact⟨rc,by simp[Instr.sliceBounds,e2 rc hcr],aKP _,q2,aKl _,.inl ⟨rfl,rfl,rfl⟩⟩
         ·cases e1
          exact⟨rc,by simp[Instr.sliceBounds,e2 rc hcr,e3 hb (aKl _)],q3,q2,aKl _,.inl ⟨rfl,rfl,rfl⟩⟩
         ·cases e2
         ·cases e2
         ·cases e3
          exact⟨M,by simp[Instr.sliceBounds,e1 rc hcr,e2 M (aKl _)],aKP _,q2,q1,.inr ⟨rfl,rfl⟩⟩
         ·exact⟨M,by simp[Instr.sliceBounds,e1 rc hcr,e2 M (aKl _),e3 hb (aKl _)],q3,q2,q1,.inr ⟨rfl,rfl⟩⟩
        obtain⟨k3,hk,hlh,hhM,hMc,Px⟩:=key
        have sN:=RU (a:=some ra) hu hi hk
        have place:k3-lb=0∨((if k3=lb then some ra else (some ra).map (·.add (lb*i.size)))=some (⟨lc.rb,lc.base+(o+lb*i.size),none⟩:Addr)∧lc.base+(o+lb*i.size)+(k3-lb)*lc.gV≤lc.SJ):=by
         by_cases hz:k3-lb=0
         ·exact .inl hz
         ·right
          have hk3:k3≤rc:=by rcases Px with⟨_,rfl,_⟩ | ⟨_,rfl⟩<;>omega
          rcases ha with ha | ⟨rfl,ha⟩
          ·omega
          ·rw[if_neg (by omega)]
           refine⟨by simp[Addr.add_lit,Nat.add_assoc],?_⟩
           rw[g1] at ha ⊢
           have e1:(k3-lb)*i.size=k3*i.size-lb*i.size:=Nat.sub_mul _ _ _
           have e2:lb*i.size≤k3*i.size:=aKM _ (by omega)
           have e3:k3*i.size≤rc*i.size:=aKM _ hk3
           omega
        obtain⟨ra',aBQ⟩:∃ra',(if k3=lb then some ra else (some ra).map (·.add (lb*i.size)))=some ra':=by split<;>exact⟨_,rfl⟩
        rw[aBQ] at sN
        have azB:k3-lb=0∨(ra'=⟨lc.rb,lc.base+(o+lb*i.size),none⟩∧lc.base+(o+lb*i.size)+(k3-lb)*lc.gV≤lc.SJ):=by
         rcases place with hp | ⟨hp1,hp2⟩
         ·exact .inl hp
         ·rw[aBQ] at hp1
          exact .inr ⟨by injection hp1,hp2⟩
        split at hs
        ·rename_i aFf
         cases hs
         obtain⟨aBn,hMl⟩:=aFf
         rcases Px with⟨rfl,_⟩ | ⟨_,rfl⟩
         ·cases aBn
         ·have hA:=aeK hR (hf H.length (aKl _) (by simp)) WX i.size
          refine cQ.value (rv := .slice (some ra') 0 0) (by rw[sN];congr 2<;>omega) ?_ hA.1 (hA.2 lo)
          exact .slice _ 0 0 0 _ _ 0 (bZ m _ _) (aKl _) (aKl _) (fun _=>rfl) (.inl rfl)
        ·cases hs
         refine cQ.value sN ?_ hR (Trans.refl lo m H w)
         refine .slice b _ _ _ lc _ _ WX (by omega) ?_ ?_ azB
         ·rcases Px with⟨_,rfl,rfl⟩ | ⟨_,rfl⟩<;>omega
         ·intro ho
          have:=hxp ho
          rcases Px with⟨_,rfl,rfl⟩ | ⟨_,rfl⟩<;>omega
    ·cases hs
   ·cases hs
 ·cases hs
end
end Go.PM
namespace Go.PM
section
variable {P:Program} {m:dL} {L0:Nat} {H:aJ} {w:World}
theorem XQ {t:TypeId} {i:TypeInfo} {lo b o:Nat} {v r rp:Value} {H':aJ} (hi:P.info? t=some i) (hp:RV m (.pointer (some ⟨b,o,none⟩)) rp) (hv:RV m v r) (hs:(aV v).length=i.size)
  (hw:H.write lo b o (aV v)=some H') (hR:Rel m L0 H w) (dQ:L0≤lo) :
  cQ P (do Instr.storeAt t rp r;pure .skip) L0 lo m H w undef H':=by
 cases hp with
 |
  ptr _ _ l hm =>
  obtain⟨w',s1,s2,s3⟩:=Gj P hR dQ hm hw hv.aV
  refine⟨undef,w',m,.inr ⟨?_,rfl⟩,RV.undef m,s2,s3⟩
  have DO:r.cells.size=i.size:=by rw[fP,←hv.aV.1,hs]
  have h1:(Instr.storeAt t (.pointer (some ⟨l.rb,l.base+o,none⟩)) r).run P w = .ok () w':=by
   show (storeVar t ⟨l.rb,l.base+o,none⟩ r).run P w=_
   unfold storeVar
   simp only[Sem.run_bind,run_sizeOf t i hi,Result.andThen_ok,DO,ne_eq,not_true_eq_false,if_false,hJ]
   exact s1
  rw[Sem.run_bind,h1]
  rfl
theorem Ki {pv rv:Value} {k:Nat} (h:vY pv=some k) (hr:RV m pv rv):Builtin.lenOf rv=pure k:=by
 unfold vY at h
 split at h
 ·cases h;cases hr<;>rfl
 ·cases h;cases hr;rfl
 ·cases h
theorem Ey (a b:Array Value) (xs:List Value) (h:a.toList=xs) (i:Nat) (hi:i<xs.length):(a++b).getD i undef=xs.getD i undef:=by
 subst h
 have:i<a.size:=by simpa using hi
 simp[Array.getD_eq_getD_getElem?,Array.getElem?_append_left this,aKi]
theorem agX {t u ty:TypeId} {agg:Bool} {size bytes lo k:Nat} {z:List Value} {d:TypeDesc} {x y rx ry v:Value} {new:List Value} {H':aJ} (ht:lU P t=some (agg,size,z,bytes)) (hu:P.underlying u=some d) (hd:NU d=true)
  (hk:vY y=some k) (CO:lA H size k y=some new) (xH:fA lo size bytes x k new H=some (v,H')) (hx:RV m x rx) (hy:RV m y ry) (ZE:size=z.length)
  (hR:Rel m L0 H w) (dQ:L0≤lo) (hf:∀b,H.length≤b→b<H'.length→m b=none) :
  cQ P (do pure (.value (←Builtin.append_ #[t,u] ty #[rx,ry]))) L0 lo m H w v H':=by
 obtain⟨e,Lv,So⟩:=lC ht
 obtain⟨i,de,zz,hi,_,Kt,rfl,rfl,rfl,rfl⟩:=kL So
 obtain⟨tC,h1,h2,h3⟩:=Mj CO hk (aKl _) hR hy
 have hl:=Ki hk hy
 have EU:1≤i.bytes:=by
  unfold fA at xH
  split at xH
  ·rename_i h;exact h.1
  ·cases xH
 have hnl:new.length=k*i.size:=by
  unfold fA at xH
  split at xH
  ·rename_i h;exact h.2.2.2
  ·cases xH
 obtain⟨rv,w',m',g1,g2,g3,g4⟩:=Mc (P:=P) (s:=Builtin.append_ #[t,u] ty #[rx,ry]) (e:=e) xH hR dQ hx h1 hf
  (fun a n c w' MW EE xA=>by
   subst MW
   exact SV Lv hu hd hi hl (h3 w rfl) EE xA)
  (fun MW hk0=>by
   subst MW
   subst hk0
   exact Vq Lv hu hd hi hl (h3 w rfl))
  (fun base n c EW MW hfo iA hg hb=>by
   subst MW
   refine⟨grownCap w (n+k) c e,_,grownCap_ge w _ _ _,SX Lv hu hd hi Kt hl hfo (h3 w.drew rfl) hg EU hb,?_,?_⟩
   ·have GY:=grownCap_ge w (n+k) c e
    have AU:tC.length=k*i.size:=by rw[←h1.1,hnl]
    simp only[Array.size_append,List.size_toArray,size_zeroCells,iA,AU]
    rw[←fP] at ZE
    rw[←ZE,←aKQ,←aKQ]
    congr 1
    omega
   ·intro j hj
    exact Ey _ _ _ (by simp) j hj)
 exact cQ.value g1 g2 g3 g4
section
variable {t u ty e:TypeId} {ku:IntKind} {i:TypeInfo} {zz:Value} {k:Nat}
theorem JR {k:Nat} (h:k≤140737488355328):IntKind.i64.wrap (k:Int)=(k:Int):=by rw[IntKind.wrap_i64];omega
theorem Qj (ht:P.underlying t=some (.slice e)) (hu:P.underlying u=some (.int ku)) (hi:P.info? e=some i) (Kt:i.zero=some zz) (hk:k≤140737488355328) (IL:k*i.bytes≤140737488355328)
  {a:Addr} {n c:Nat} {w':World} (EE:n+k≤c) (hz:k*i.size=0→Builtin.zeroCells zz.cells k = #[]) (xA:(storeCells (a.add (n*i.size)) (Builtin.zeroCells zz.cells k).toList).run P w = .ok () w') :
  (Builtin.append_ #[t,u] ty #[.slice (some a) n c,.int .i64 k]).run P w = .ok (.slice (some a) (n+k) c) w':=by
 have h0:¬((k:Int)<0):=by omega
 have hb:¬(281474976710656<(k:Int)*(i.bytes:Int)):=by rw[←Int.natCast_mul];omega
 by_cases Ch:k*i.size=0
 ·rw[hz Ch] at xA
  simp[Builtin.append_,run_underlying ht,run_underlying hu,run_sizeOf e i hi,asInt,asIntOf,JR hk,typeInfo,hi,h0,hb,EE,Ch,xA]
 ·simp[Builtin.append_,run_underlying ht,run_underlying hu,run_sizeOf e i hi,asInt,asIntOf,JR hk,typeInfo,hi,h0,hb,EE,Ch,zeroValue,Kt,xA]
theorem Tv (ht:P.underlying t=some (.slice e)) (hu:P.underlying u=some (.int ku)) (hi:P.info? e=some i) :
  (Builtin.append_ #[t,u] ty #[.slice none 0 0,.int .i64 (0:Nat)]).run P w = .ok (.slice none 0 0) w:=by
 have hw:IntKind.i64.wrap 0=0:=rfl
 simp[Builtin.append_,run_underlying ht,run_underlying hu,run_sizeOf e i hi,asInt,asIntOf,hw,typeInfo,hi]
theorem Qi (ht:P.underlying t=some (.slice e)) (hu:P.underlying u=some (.int ku)) (hi:P.info? e=some i) (Kt:i.zero=some zz) (hk:k≤140737488355328) (IL:k*i.bytes≤140737488355328)
  {base:Option Addr} {n c:Nat} {EW:List Value} (hfo:(Builtin.firstCells i.size n (.slice base n c)).run P w.drew = .ok EW.toArray w.drew) (hz:k*i.size=0→Builtin.zeroCells zz.cells k = #[])
  (hg:c<n+k) (EU:1≤i.bytes) (NH:(n+k)*i.bytes≤140737488355328) :
  (Builtin.append_ #[t,u] ty #[.slice base n c,.int .i64 k]).run P w = .ok (.slice (some ⟨w.heap.size,0,none⟩) (n+k) (grownCap w (n+k) c e))
   (w.drew.alloc (.cells (EW.toArray++Builtin.zeroCells zz.cells k++Builtin.zeroCells zz.cells (grownCap w (n+k) c e-(n+k))) e)):=by
 have xB:=growslice_fits (bytes:=i.bytes) hg NH
 have h0:¬((k:Int)<0):=by omega
 have hb:¬(281474976710656<(k:Int)*(i.bytes:Int)):=by rw[←Int.natCast_mul];omega
 have h1:¬(n+k≤c):=by omega
 have h2:¬(281474976710656<Builtin.nextslicecap (n+k) c*i.bytes):=by omega
 have h4:n+k≤140737488355328:=aKm (aKR _ EU) NH
 have h3:¬(9223372036854775807<(n:Int)+(k:Int)):=by omega
 by_cases Ch:k*i.size=0
 ·have e0:=hz Ch
  simp[Builtin.append_,run_underlying ht,run_underlying hu,run_sizeOf e i hi,asInt,asIntOf,JR hk,typeInfo,hi,h0,hb,h1,h2,h3,e0,zeroValue,Kt,Question.forced,hfo,newRow,grownCap]
 ·simp[Builtin.append_,run_underlying ht,run_underlying hu,run_sizeOf e i hi,asInt,asIntOf,JR hk,typeInfo,hi,h0,hb,h1,h2,h3,Ch,zeroValue,Kt,Question.forced,hfo,newRow,grownCap]
end
theorem abC {t u ty:TypeId} {agg:Bool} {size bytes lo:Nat} {z:List Value} {ku:IntKind} {n:Int} {x rx v:Value} {H':aJ} (ht:lU P t=some (agg,size,z,bytes)) (hu:P.underlying u=some (.int ku))
  (hn:0≤n∧n*bytes≤140737488355328) (xH:fA lo z.length bytes x n.toNat (dG n.toNat z) H=some (v,H')) (hx:RV m x rx) (ZE:size=z.length) (KV:z.all iQ=true) (Nq:z.all mQ=true) (Ch:1≤z.length)
  (hR:Rel m L0 H w) (dQ:L0≤lo) (hf:∀b,H.length≤b→b<H'.length→m b=none) :
  cQ P (do pure (.value (←Builtin.append_ #[t,u] ty #[rx,.int .i64 n]))) L0 lo m H w v H':=by
 obtain⟨e,Lv,So⟩:=lC ht
 obtain⟨i,de,zz,hi,_,Kt,rfl,rfl,rfl,rfl⟩:=kL So
 obtain⟨k,rfl⟩:=Int.eq_ofNat_of_zero_le hn.1
 simp only[Int.toNat_natCast] at xH
 have EU:1≤i.bytes:=by
  unfold fA at xH
  split at xH
  ·rename_i h;exact h.1
  ·cases xH
 have IL:k*i.bytes≤140737488355328:=by have:=hn.2;omega
 have hk:k≤140737488355328:=aKm (aKR _ EU) IL
 have DO:i.size=zz.cells.size:=by rw[ZE,fP]
 have abM:1≤zz.cells.size:=by rw[fP];exact Ch
 have pU:(Builtin.zeroCells zz.cells k).toList=dG k (aV zz):=by rw[I2 _ _ abM,hJ]
 have aBm:k*i.size=0→Builtin.zeroCells zz.cells k = #[]:=by
  intro h0
  apply Array.ext'
  rw[pU]
  exact aKr (by rw[yN,←ZE];exact h0)
 obtain⟨rv,w',m',g1,g2,g3,g4⟩:=Mc (P:=P) (s:=Builtin.append_ #[t,u] ty #[rx,.int .i64 k]) (e:=e) (tC:=dG k (aV zz)) xH hR dQ hx (AD k Nq Ch) hf
  (fun a n c w' MW EE xA=>by
   subst MW
   exact Qj Lv hu hi Kt hk IL EE aBm (by rw[pU,ZE];exact xA))
  (fun MW hk0=>by
   subst MW
   subst hk0
   exact Tv Lv hu hi)
  (fun base n c EW MW hfo iA hg hb=>by
   subst MW
   refine⟨grownCap w (n+k) c e,_,grownCap_ge w _ _ _,Qi Lv hu hi Kt hk IL (by rw[ZE];exact hfo) aBm hg EU hb,?_,?_⟩
   ·have GY:=grownCap_ge w (n+k) c e
    simp only[Array.size_append,List.size_toArray,size_zeroCells,iA,fP]
    rw[←aKQ,←aKQ]
    congr 1
    omega
   ·intro j hj
    exact Ey _ _ _ (by simp[pU]) j hj)
 exact cQ.value g1 g2 g3 g4
theorem acW {t ty:TypeId} {ts:List TypeId} {agg:Bool} {size bytes lo b o d c k:Nat} {z new:List Value} {y rx ry:Value} {H':aJ} (ht:lU P t=some (agg,size,z,bytes))
  (hk:vY y=some k) (CO:lA H size (aKS k d) y=some new) (hw:H.write lo b o new=some H') (hx:RV m (.slice (some ⟨b,o,none⟩) d c) rx) (hy:RV m y ry)
  (hR:Rel m L0 H w) (dQ:L0≤lo) :
  cQ P (do pure (.value (←Builtin.copy_ (t::ts).toArray ty #[rx,ry]))) L0 lo m H w (.int .i64 (aKS k d)) H':=by
 obtain⟨e,Lv,So⟩:=lC ht
 obtain⟨i,de,zz,hi,_,Kt,rfl,rfl,rfl,rfl⟩:=kL So
 obtain⟨tC,h1,h2,h3⟩:=Mj (P:=P) CO hk (Nat.min_le_left _ _) hR hy
 have hl:=Ki hk hy
 cases hx with
 |
  slice _ _ _ _ l ra rc hm hn hc hxp ha =>
  rcases ha with ha | ⟨rfl,ha⟩
  ·have ES:d=0:=by omega
   subst ES
   have apF:aKS k 0=0:=Nat.min_zero k
   rw[apF] at CO h3 ⊢
   have pU:new=[]:=by
    have:tC.length=new.length:=h1.1.symm
    unfold lA at CO
    split at CO
    ·obtain⟨_,_,_,_,_,_,hlen⟩:=Q6 CO
     exact aKr (by simpa using hlen)
    ·split at CO
     ·cases CO;rfl
     ·cases CO
    ·split at CO
     ·cases CO;simp
     ·cases CO
    ·cases CO
   subst pU
   have hrn:tC=[]:=aKr h1.1.symm
   subst hrn
   have hHH:H'=H:=by
    obtain⟨cs,e',p',q1,q2,q3,q4,rfl⟩:=Dx hw
    apply List.ext_getElem?
    intro j
    by_cases hj:b=j
    ·subst hj
     rw[List.getElem?_set_self (aKk.1 q1).1,q1]
     simp[kI]
    ·rw[aKK hj]
   rw[hHH]
   refine cQ.value (rv := .int .i64 0) (w':=w) ?_ (.int _ _) hR (Trans.refl lo m _ w)
   have hf0:=h3 w rfl
   simp[Builtin.copy_,run_underlying Lv,hl,run_sizeOf e i hi,goInt,hf0,storeCells]
  ·obtain⟨w',s1,s2,s3⟩:=Gj P hR dQ hm hw h1
   refine cQ.value (rv := .int .i64 (aKS k d)) ?_ (.int _ _) s2 s3
   have hf0:=h3 w rfl
   unfold Builtin.copy_
   simp only[List.getElem?_toArray,List.getElem?_cons_zero,List.getElem?_cons_succ,Sem.run_bind,run_underlying Lv,Result.andThen_ok,hl,Sem.run_pure,run_sizeOf e i hi]
   rw[hf0]
   simp only[Result.andThen_ok,s1,goInt]
theorem W7 {t ty e:TypeId} {ts:List TypeId} {i:TypeInfo} {zz:Value} {lo b o n c:Nat} {rx:Value} {H':aJ} (Lv:P.underlying t=some (.slice e)) (hi:P.info? e=some i) (Kt:i.zero=some zz)
  (hn0:n≠0) (hw:H.write lo b o (dG n (aV zz))=some H') (hx:RV m (.slice (some ⟨b,o,none⟩) n c) rx) (Nq:(aV zz).all mQ=true) (Ch:1≤(aV zz).length) (hR:Rel m L0 H w) (dQ:L0≤lo) :
  cQ P (do pure (.value (←Builtin.clear_ (t::ts).toArray ty #[rx]))) L0 lo m H w undef H':=by
 cases hx with
 |
  slice _ _ _ _ l ra rc hm hn hc hxp ha =>
  rcases ha with ha | ⟨rfl,ha⟩
  ·omega
  ·obtain⟨w',s1,s2,s3⟩:=Gj P hR dQ hm hw (AD n Nq Ch)
   have pU:(Builtin.zeroCells zz.cells n).toList=dG n (aV zz):=by rw[I2 _ _ (by rw[fP];exact Ch),hJ]
   refine cQ.value (rv:=undef) ?_ (RV.undef m) s2 s3
   rw[←pU] at s1
   obtain⟨n',rfl⟩:∃n',n=n'+1:=⟨n-1,by omega⟩
   simp[Builtin.clear_,run_underlying Lv,zeroValue,typeInfo,hi,Kt,s1,undef]
theorem Mo {t ty e:TypeId} {ts:List TypeId} {lo c:Nat} {a:Option Addr} {rx:Value} (Lv:P.underlying t=some (.slice e)) (hx:RV m (.slice a 0 c) rx) (hR:Rel m L0 H w) :
  cQ P (do pure (.value (←Builtin.clear_ (t::ts).toArray ty #[rx]))) L0 lo m H w undef H:=by
 refine cQ.value (rv:=undef) (w':=w) ?_ (RV.undef m) hR (Trans.refl lo m _ w)
 cases hx<;>simp[Builtin.clear_,run_underlying Lv,undef]
end
end Go.PM
namespace Go.PM
section
variable {P:Program} {m:dL} {L0:Nat} {H:aJ} {w:World}
theorem Ff {po:qF} {ρ:Env} {v:Value} {H':aJ} (h:(kC po ρ).map (Out.val · H)=some (.val v H')):kC po ρ=some v∧H'=H:=by
 cases hp:kC po ρ with
 | none=>rw[hp] at h;cases h
 | some u=>rw[hp] at h;cases h;exact⟨rfl,rfl⟩
def yB:qF→Bool
 | .load .. | .sub .. | .b2s _ | .new _ | .box _ | .make .. | .lit .. | .call .. | .store .. | .app .. | .appz .. | .copy .. | .clear .. | .callv .. => false
 | _=>true
theorem Bv {lo:Nat} {po:qF} {ρ:Env} (h:yB po=true):pop lo po ρ H=(kC po ρ).map (.val · H):=by
 cases po<;>first | rfl | cases h
theorem Vo {pv rv:Value} {k:Nat} (size:Nat) (h:vY pv=some k) (hr:RV m pv rv):(Builtin.firstCells size 0 rv).run P w = .ok #[] w:=by
 unfold vY at h
 split at h
 ·cases hr
  ·rfl
  ·simp only[Builtin.firstCells,Nat.zero_mul]
   rfl
 ·cases hr
  simp[Builtin.firstCells]
 ·cases h
theorem ZH {o:Oper} {po:qF} {ρ:Env} {a:Act} {lo:Nat} {v:Value} {H':aJ} (hp:tE P o.op=some po) (hv:pop lo po ρ H=some (.val v H')) (hr:∀x∈o.op.operands,RV m (ev ρ x) (a.eval x))
  (hR:Rel m L0 H w) (dQ:L0≤lo) (hf:∀b,H.length≤b→b<H'.length→m b=none):cQ P (execOp a.eval o) L0 lo m H w v H':=by
 by_cases kT:yB po=true
 ·rw[Bv kT] at hv
  obtain⟨h1,rfl⟩:=Ff hv
  obtain⟨rv,h2,h3⟩:=alD hp h1 hr
  exact⟨rv,w,m,.inl (h3 w),h2,hR,Trans.refl lo m _ w⟩
 obtain⟨dst,op,type,pos,after,guard⟩:=o
 unfold tE at hp
 simp only at hp hr ⊢
 split at hp
 case isFalse=>cases hp
 cases op with
 | move x=>cases hp;exact absurd rfl kT
 | assign x=>cases hp;exact absurd rfl kT
 | pick c x y=>cases hp;exact absurd rfl kT
 |
  binOp op t x y yt =>
  unfold Ed at hp
  simp only at hp
  split at hp
  ·cases hp;exact absurd rfl kT
  ·cases hp;exact absurd rfl kT
  ·split at hp<;>first | (cases hp;done) | (cases hp;exact absurd rfl kT)
  ·split at hp<;>first | (cases hp;done) | (split at hp<;>first | (cases hp;done) | (cases hp;exact absurd rfl kT))
  ·split at hp<;>first | (cases hp;done) | (cases hp;exact absurd rfl kT)
  ·cases hp
 | unOp op t x=>cases hp;exact absurd rfl kT
 | extract x i=>cases hp;exact absurd rfl kT
 |
  convert s d x =>
  have hx:=hr x (by simp[Op.operands])
  simp only at hp
  split at hp
  ·cases hp;exact absurd rfl kT
  ·cases hp;exact absurd rfl kT
  ·rename_i e hs hd
   split at hp
   ·rename_i he
    cases hp
    simp only[pop] at hv
    split at hv
    ·rename_i n c Q7
     cases hv
     rw[Q7] at hx
     show cQ P (do pure (.value (←convert s d (a.eval x)))) L0 lo m H w _ H
     generalize a.eval x=rx at hx ⊢
     cases hx
     refine cQ.value (rv := .string ByteArray.empty) ?_ (.str _) hR (Trans.refl lo m _ w)
     simp[convert,run_underlying hs,run_underlying hd,run_underlying he,Conv.bytesToString]
    ·rename_i b o n c Q7
     split at hv
     ·rename_i cs MD
      cases hb:xZ cs with
      | none=>rw[hb] at hv;cases hv
      |
       some bs =>
       rw[hb] at hv
       cases hv
       rw[Q7] at hx
       exact ajJ hs hd he MD hb hR hx
     ·cases hv
    ·cases hv
   ·cases hp
  ·cases hp
 |
  field t x i =>
  simp only at hp
  split at hp
  ·split at hp
   ·rename_i f hf'
    cases ht:oM P f.type with
    | none=>rw[ht] at hp;cases hp
    | some q=>rw[ht] at hp;cases hp;exact absurd rfl kT
   ·cases hp
  ·cases hp
 |
  build t parts =>
  simp only at hp
  split at hp
  ·split at hp
   ·split at hp
    ·cases hp;exact absurd rfl kT
    ·cases hp
   ·cases hp
  ·cases hp
 | nilCheck x=>cases hp;exact absurd rfl kT
 |
  fieldAddr t x i =>
  simp only at hp
  split at hp
  ·split at hp
   ·split at hp
    ·split at hp
     ·cases hp
     ·cases hp;exact absurd rfl kT
    ·cases hp
   ·cases hp
  ·cases hp
 |
  indexAddr t x i =>
  simp only at hp
  cases ht:lU P t with
  | none=>rw[ht] at hp;cases hp
  | some q=>rw[ht] at hp;cases hp;exact absurd rfl kT
 |
  index t x i =>
  simp only at hp
  split at hp
  ·cases hp;exact absurd rfl kT
  ·cases hp
 |
  slice t x fZ hi mx =>
  have hx:=hr x (by simp[Op.operands])
  simp only at hp
  split at hp
  ·split at hp
   ·cases hp;exact absurd rfl kT
   ·cases hp
  ·rename_i e hu
   cases ht:oM P e with
   | none=>rw[ht] at hp;cases hp
   |
    some q =>
    obtain⟨agg,size,z,nb⟩:=q
    rw[ht] at hp
    cases hp
    obtain⟨i,d,zz,qM,_,_,rfl,rfl,rfl,rfl⟩:=kL ht
    simp only[pop] at hv
    cases hs:EN i.size (ev ρ x) (fZ.map (ev ρ)) (hi.map (ev ρ)) (mx.map (ev ρ)) H with
    | none=>rw[hs] at hv;cases hv
    |
     some q =>
     obtain⟨u,H1⟩:=q
     rw[hs] at hv
     cases hv
     exact alV hu qM hs hx (RO.map fun y hy=>hr y (by simp[Op.operands,hy])) (RO.map fun y hy=>hr y (by simp[Op.operands,hy])) (RO.map fun y hy=>hr y (by simp[Op.operands,hy])) hR hf
  ·cases hp
 |
  makeFunc fn first fU =>
  cases fn with
  |
   func f =>
   simp only at hp
   split at hp
   ·cases hp;exact absurd rfl kT
   ·cases hp
  | _=>cases hp
 | makeInterface t x=>cases hp;exact absurd rfl kT
 | panic x=>cases hp;exact absurd rfl kT
 |
  load t p =>
  have hx:=hr p (by simp[Op.operands])
  simp only at hp
  cases ht:oM P t with
  | none=>rw[ht] at hp;cases hp
  |
   some q =>
   obtain⟨agg,size,z,nb⟩:=q
   rw[ht] at hp
   cases hp
   simp only[pop] at hv
   cases hl:qL agg size (ev ρ p) H with
   | none=>rw[hl] at hv;cases hv
   |
    some u =>
    rw[hl] at hv
    cases hv
    obtain⟨rv,h1,h2⟩:=RY ht hl hR hx
    exact cQ.value h2 h1 hR (Trans.refl lo m _ w)
 |
  store t p x =>
  have hpp:=hr p (by simp[Op.operands])
  have hx:=hr x (by simp[Op.operands])
  simp only at hp
  cases ht:P.info? t with
  | none=>rw[ht] at hp;cases hp
  |
   some i =>
   rw[ht] at hp
   cases hp
   simp only[pop] at hv
   split at hv
   ·rename_i b o hpo
    split at hv
    ·rename_i hs
     cases hw:H.write lo b o (aV (ev ρ x)) with
     | none=>rw[hw] at hv;cases hv
     |
      some H1 =>
      rw[hw] at hv
      cases hv
      rw[hpo] at hpp
      exact XQ ht hpp hx hs hw hR dQ
    ·cases hv
   ·cases hv
 |
  alloc t =>
  simp only at hp
  split at hp
  ·rename_i agg size z nb ht
   split at hp
   ·rename_i hz
    cases hp
    simp only[aKT] at hz
    cases hv
    exact ajD ht hz.1 hz.2 hR (hf _ (aKl _) (by simp))
   ·cases hp
  ·cases hp
 |
  box t x =>
  have hx:=hr x (by simp[Op.operands])
  cases hp
  simp only[pop] at hv
  split at hv
  ·rename_i hs
   cases hv
   exact amB hx hs hR (hf _ (aKl _) (by simp))
  ·cases hv
 |
  makeSlice t l c =>
  have hl:=hr l (by simp[Op.operands])
  have hc:=hr c (by simp[Op.operands])
  simp only at hp
  split at hp
  ·rename_i agg size z nb ht
   split at hp
   ·rename_i hz
    cases hp
    simp only[aKT,beq_iff_eq,decide_eq_true_eq] at hz
    obtain⟨⟨⟨z1,z2⟩,z3⟩,z4⟩:=hz
    simp only[pop] at hv
    split at hv
    ·rename_i l' c' EZ hc'
     split at hv
     ·rename_i hb
      cases hv
      rw[EZ] at hl
      rw[hc'] at hc
      show cQ P (do pure (.value (←Instr.makeSlice t (a.eval l) (a.eval c)))) L0 lo m H w _ _
      generalize a.eval l=rl at hl ⊢
      generalize a.eval c=rc at hc ⊢
      cases hl
      cases hc
      exact acU ht z1 z2 z3 z4 hb.1 hb.2.1 hb.2.2.1 hb.2.2.2 hR (hf _ (aKl _) (by simp))
     ·cases hv
    ·cases hv
   ·cases hp
  ·cases hp
 |
  buildSlice t n parts =>
  simp only at hp
  split at hp
  ·rename_i agg size z nb ht
   split at hp
   ·rename_i hz
    cases hp
    simp only[aKT,beq_iff_eq,decide_eq_true_eq] at hz
    obtain⟨⟨⟨⟨z1,z2⟩,z3⟩,z4⟩,z5⟩:=hz
    simp only[pop] at hv
    split at hv
    ·rename_i cs MD
     split at hv
     ·rename_i BQ
      cases hv
      have:=aoD (P:=P) (w:=w) (lo:=lo) (a:=a) ht z1 z2 z3 z4 z5 MD BQ (fun p hpm=>hr p.2 (by simp only[Op.operands];simp;exact⟨p.1,by simpa using hpm⟩)) hR (hf _ (aKl _) (by simp))
      rw[Array.toArray_toList] at this
      exact this
     ·cases hv
    ·cases hv
   ·cases hp
  ·cases hp
 |
  call c =>
  obtain⟨callee,args,ts⟩:=c
  cases callee with
  |
   builtin b =>
   have WH:∀x∈args,RV m (ev ρ x) (a.eval x):=fun x hx=>hr x (by simpa[Op.operands,Call.operands] using hx)
   simp only at hp
   unfold rU at hp
   split at hp
   ·split at hp<;>first | (cases hp;done) | (cases hp;exact absurd rfl kT)
   ·split at hp<;>first | (cases hp;done) | (cases hp;exact absurd rfl kT)
   ·cases hp;exact absurd rfl kT
   ·cases hp;exact absurd rfl kT
   ·rename_i x y t u Fj AN hts _
    have ea:args = #[x,y]:=aKB.1 (by simpa using AN)
    subst ea
    have hx:=WH x (by simp)
    have hy:=WH y (by simp)
    have aFd:∃tr,ts=(t::u::tr).toArray:=⟨Fj,aKB.1 (by simpa using hts)⟩
    obtain⟨tr,rfl⟩:=aFd
    show cQ P (do pure (.value (←Builtin.append_ (t::u::tr).toArray type ((#[x,y]:Array Operand).map a.eval)))) L0 lo m H w v H'
    rw[Np]
    have aEd:∀r1 r2,Builtin.append_ (t::u::tr).toArray type #[r1,r2]=Builtin.append_ #[t,u] type #[r1,r2]:=fun r1 r2=>by simp[Builtin.append_]
    rw[aEd]
    split at hp
    ·rename_i agg size zero bytes ku ht hu
     split at hp
     ·rename_i hz
      cases hp
      simp only[aKT,beq_iff_eq,decide_eq_true_eq] at hz
      obtain⟨⟨⟨z1,z2⟩,z3⟩,z4⟩:=hz
      simp only[pop] at hv
      split at hv
      ·rename_i n hn
       split at hv
       ·rename_i hb
        cases xH:fA lo zero.length bytes (ev ρ x) n.toNat (dG n.toNat zero) H with
        | none=>rw[xH] at hv;cases hv
        |
         some q =>
         obtain⟨u',H1⟩:=q
         rw[xH] at hv
         cases hv
         rw[hn] at hy
         generalize a.eval y=ry at hy ⊢
         cases hy
         exact abC ht hu hb xH hx z4 z1 z2 z3 hR dQ hf
       ·cases hv
      ·cases hv
     ·cases hp
    ·rename_i agg size zero bytes d _ ht hu
     split at hp
     ·rename_i hd
      split at hp
      ·rename_i ZE
       cases hp
       simp only[pop] at hv
       split at hv
       ·rename_i k hk
        split at hv
        ·rename_i new pU
         cases xH:fA lo size bytes (ev ρ x) k new H with
         | none=>rw[xH] at hv;cases hv
         |
          some q =>
          obtain⟨u',H1⟩:=q
          rw[xH] at hv
          cases hv
          exact agX ht hu hd hk pU xH hx hy (by simpa using ZE) hR dQ hf
        ·cases hv
       ·cases hv
      ·cases hp
     ·cases hp
    ·cases hp
   ·rename_i x y t Fj AN hts _
    have ea:args = #[x,y]:=aKB.1 (by simpa using AN)
    have et:ts=(t::Fj).toArray:=aKB.1 (by simpa using hts)
    subst ea;subst et
    have hx:=WH x (by simp)
    have hy:=WH y (by simp)
    show cQ P (do pure (.value (←Builtin.copy_ (t::Fj).toArray type ((#[x,y]:Array Operand).map a.eval)))) L0 lo m H w v H'
    rw[Np]
    split at hp
    ·rename_i agg size zero bytes ht
     cases hp
     simp only[pop] at hv
     split at hv
     ·rename_i n c k Q7 hk
      cases hv
      rw[Q7] at hx
      generalize a.eval x=rx at hx ⊢
      cases hx
      obtain⟨e,Lv,So⟩:=lC ht
      obtain⟨i,de,zz,hi,_,Kt,_,_,_,_⟩:=kL So
      refine cQ.value (rv := .int .i64 0) (w':=w) ?_ (.int _ _) hR (Trans.refl lo m _ w)
      have hl:=Ki hk hy
      have hf0:=Vo (P:=P) (w:=w) i.size hk hy
      simp[Builtin.copy_,run_underlying Lv,hl,run_sizeOf e i hi,goInt,hf0]
     ·rename_i b o d c k Q7 hk
      split at hv
      ·rename_i new pU
       cases hw:H.write lo b o new with
       | none=>rw[hw] at hv;cases hv
       |
        some H1 =>
        rw[hw] at hv
        cases hv
        rw[Q7] at hx
        exact acW ht hk pU hw hx hy hR dQ
      ·cases hv
     ·cases hv
    ·cases hp
   ·rename_i x t Fj AN hts _
    have ea:args = #[x]:=aKB.1 (by simpa using AN)
    have et:ts=(t::Fj).toArray:=aKB.1 (by simpa using hts)
    subst ea;subst et
    have hx:=WH x (by simp)
    show cQ P (do pure (.value (←Builtin.clear_ (t::Fj).toArray type ((#[x]:Array Operand).map a.eval)))) L0 lo m H w v H'
    rw[Sr]
    split at hp
    ·rename_i agg size zero bytes ht
     split at hp
     ·rename_i hz
      cases hp
      simp only[aKT,beq_iff_eq,decide_eq_true_eq] at hz
      obtain⟨⟨⟨z1,z2⟩,z3⟩,z4⟩:=hz
      obtain⟨e,Lv,So⟩:=lC ht
      obtain⟨i,de,zz,hi,_,Kt,rfl,rfl,rfl,rfl⟩:=kL So
      simp only[pop] at hv
      split at hv
      ·rename_i n c Q7
       cases hv
       rw[Q7] at hx
       generalize a.eval x=rx at hx ⊢
       cases hx
       exact Mo Lv .M8 hR
      ·rename_i b o n c Q7
       rw[Q7] at hx
       split at hv
       ·rename_i hn0
        cases hv
        subst hn0
        exact Mo Lv hx hR
       ·rename_i hn0
        cases hw:H.write lo b o (dG n (aV zz)) with
        | none=>rw[hw] at hv;cases hv
        |
         some H1 =>
         rw[hw] at hv
         cases hv
         exact W7 Lv hi Kt hn0 hw hx z2 z4 hR dQ
      ·cases hv
     ·cases hp
    ·cases hp
   ·cases hp
  |
   value f =>
   cases f with
   | func g=>cases hp;cases hv
   |
    tmp t =>
    cases hp
    simp only[pop] at hv
    split at hv<;>cases hv
   | const c=>cases hp
   | global g=>cases hp
  | invoke r s=>cases hp
 | _=>cases hp
def Oc (P:Program) (f:Nat):Prop:=∃fn,P.funcs[f]? = some fn∧(fn.name == "runtime.NumGoroutine")=false∧fn.body.isNone=false
theorem Jd {f:Nat} {args:Array Value} (h:Oc P f):(callFunc f args).run P w = .ok (.enter f args) w:=by
 obtain⟨fn,h1,h2,h3⟩:=h
 unfold callFunc
 rw[Sem.run_bind,run_program,Result.andThen_ok,h1]
 simp[h2,h3]
theorem map_none {α β:Type} {o:Option α} {f:α→β} {x:β} (h:o.map f=some x) (hf:∀y,f y≠x):False:=by
 cases o with
 | none=>cases h
 | some y=>injection h with h;exact hf y h
theorem acY {op:Op} {g:Nat} {as:List Operand} (h:tE P op=some (.call g as)):∃args ts,op = .call ⟨.value (.func g),args,ts⟩∧as=args.toList:=by
 unfold tE at h
 split at h
 case isFalse=>cases h
 cases op with
 |
  call c =>
  obtain⟨callee,args,ts⟩:=c
  cases callee with
  |
   builtin b =>
   exfalso
   simp only[rU] at h
   repeat' (split at h)
   all_goals cases h
  |
   value f =>
   cases f with
   | func g'=>cases h;exact⟨args,ts,rfl,rfl⟩
   | _=>cases h
  | invoke r s=>cases h
 |
  _ =>
  exfalso
  dsimp only at h
  try unfold Ed at h
  repeat' (split at h)
  all_goals first
   | contradiction
   | (cases h;done)
   | exact map_none h (by intro y h;cases h)
theorem X3 {op:Op} {fv:Operand} {as:List Operand} (h:tE P op=some (.callv fv as)):∃args ts,op = .call ⟨.value fv,args,ts⟩∧as=args.toList:=by
 unfold tE at h
 split at h
 case isFalse=>cases h
 cases op with
 |
  call c =>
  obtain⟨callee,args,ts⟩:=c
  cases callee with
  |
   builtin b =>
   exfalso
   simp only[rU] at h
   repeat' (split at h)
   all_goals cases h
  |
   value f =>
   cases f with
   | tmp g'=>cases h;exact⟨args,ts,rfl,rfl⟩
   | _=>cases h
  | invoke r s=>cases h
 |
  _ =>
  exfalso
  dsimp only at h
  try unfold Ed at h
  repeat' (split at h)
  all_goals first
   | contradiction
   | (cases h;done)
   | exact map_none h (by intro y h;cases h)
theorem vZ {po:qF} {ρ:Env} {lo f:Nat} {args:List Value} (hv:pop lo po ρ H=some (.call f args)):(∃g as,po = .call g as)∨(∃g as,po = .callv g as):=by
 by_cases kT:yB po=true
 ·rw[Bv kT] at hv
  cases hpp:kC po ρ with
  | none=>rw[hpp] at hv;cases hv
  | some u=>rw[hpp] at hv;cases hv
 cases po<;>first | exact absurd rfl kT | exact .inl ⟨_,_,rfl⟩ | exact .inr ⟨_,_,rfl⟩ | skip
 all_goals
  exfalso
  simp only[pop] at hv
  repeat' (split at hv)
  all_goals first
   | (cases hv;done)
   | (revert hv;generalize aJ.write _ _ _ _ _=q;cases q<;>intro hv<;>cases hv)
   | (revert hv;generalize qL _ _ _ _=q;cases q<;>intro hv<;>cases hv)
   | (revert hv;generalize EN _ _ _ _ _ _=q;cases q<;>intro hv<;>cases hv)
   | (revert hv;generalize fA _ _ _ _ _ _ _=q;cases q<;>intro hv<;>cases hv)
   | (revert hv;generalize xZ _=q;cases q<;>intro hv<;>cases hv)
theorem aeP {o:Oper} {po:qF} {ρ:Env} {a:Act} {lo f:Nat} {args:List Value} (hp:tE P o.op=some po) (hv:pop lo po ρ H=some (.call f args)) (hr:∀x∈o.op.operands,RV m (ev ρ x) (a.eval x)) :
  ∃iV,RL m args iV∧(Oc P f→∀w,(execOp a.eval o).run P w = .ok (.enter f iV.toArray) w):=by
 have key:=vZ hv
 obtain⟨dst,op,type,pos,after,guard⟩:=o
 simp only at hp hr ⊢
 rcases key with⟨g,as,rfl⟩ | ⟨g,as,rfl⟩
 ·obtain⟨EB,ts,rfl,rfl⟩:=acY hp
  cases hv
  refine⟨EB.toList.map a.eval,RL.map fun x hx=>hr x (by simp[Op.operands,Call.operands];right;simpa using hx),fun hc w => ?_⟩
  have e1:(EB.toList.map a.eval).toArray=EB.map a.eval:=aKB.1 (by rw[Array.toList_map])
  rw[e1]
  have e2:execOp a.eval ⟨dst,.call ⟨.value (.func f),EB,ts⟩,type,pos,after,guard⟩=callFunc f ((#[]++EB.map a.eval) ++ #[]):=rfl
  rw[e2,Jd hc]
  simp
 ·obtain⟨EB,ts,rfl,rfl⟩:=X3 hp
  have hg:=hr g (by simp[Op.operands,Call.operands])
  simp only[pop] at hv
  split at hv
  ·rename_i f' first fU hfv
   cases hv
   rw[hfv] at hg
   generalize hrg:a.eval g=rg at hg
   cases hg with
   |
    func fn f1 g1 c1 d1 h1 h2 h3 h4 =>
    refine⟨g1.toList++EB.toList.map a.eval++d1.toList,((RL.arr h1 h2).append (RL.map fun x hx=>hr x (by simp[Op.operands,Call.operands];right;simpa using hx))).append (RL.arr h3 h4),fun hc w => ?_⟩
    have e1:(g1.toList++EB.toList.map a.eval++d1.toList).toArray=(g1++EB.map a.eval)++d1:=by
     apply Array.ext'
     simp
    rw[e1]
    have e2:(execOp a.eval ⟨dst,.call ⟨.value g,EB,ts⟩,type,pos,after,guard⟩)=(do let d ←Deferred.ofValue (a.eval g) (EB.map a.eval);invoke d.target d.args):=rfl
    rw[e2,hrg]
    show (callFunc f ((g1++EB.map a.eval)++d1)).run P w=_
    exact Jd hc
  ·cases hv
end
end Go.PM
namespace Go.PM
section
variable {H:aJ}
theorem adX {lo:Nat} {H':aJ} (h:Ext H.length H H'):Ext lo H H' :=
 ⟨h.len,fun b _ hl=>h.low b hl hl,h.liv⟩
theorem LJ {lo size bytes add:Nat} {x v:Value} {new:List Value} {H':aJ} (h:fA lo size bytes x add new H=some (v,H')):Ext lo H H':=by
 unfold fA at h
 split at h
 case isFalse=>cases h
 split at h
 ·split at h
  ·split at h
   ·cases h;exact Ext.refl _ _
   ·split at h
    ·cases h;exact sD _ _ _
    ·cases h
  ·cases h
 ·split at h
  ·split at h
   ·split at h
    ·split at h
     ·cases h;exact Ext.refl _ _
     ·cases hw:aJ.write H lo _ _ new with
      | none=>rw[hw] at h;cases h
      | some H1=>rw[hw] at h;cases h;exact GL hw
    ·split at h
     ·split at h
      ·split at h
       ·rename_i Hy
        cases h
        exact abV Hy
       ·cases h
      ·cases h;exact sD _ _ _
     ·cases h
   ·cases h
  ·cases h
 ·cases h
theorem agT {lo size:Nat} {x v:Value} {l h' mx:Option Value} {H':aJ} (h:EN size x l h' mx H=some (v,H')):Ext lo H H':=by
 unfold EN at h
 repeat' (split at h)
 all_goals first
  | (cases h;done)
  | (cases h;exact Ext.refl _ _)
  | (cases h;exact sD _ _ _)
theorem Zj {lo:Nat} {po:qF} {ρ:Env} {v:Value} {H':aJ} (h:pop lo po ρ H=some (.val v H')):Ext lo H H':=by
 by_cases kT:yB po=true
 ·rw[Bv kT] at h
  obtain⟨_,rfl⟩:=Ff h
  exact Ext.refl _ _
 cases po<;>first | exact absurd rfl kT | skip
 case load agg size p =>
  simp only[pop] at h
  cases hl:qL agg size (ev ρ p) H with
  | none=>rw[hl] at h;cases h
  | some u=>rw[hl] at h;cases h;exact Ext.refl _ _
 case sub size x l hh mx =>
  simp only[pop] at h
  cases hs:EN size (ev ρ x) (l.map (ev ρ)) (hh.map (ev ρ)) (mx.map (ev ρ)) H with
  | none=>rw[hs] at h;cases h
  |
   some q =>
   obtain⟨u,H1⟩:=q
   rw[hs] at h;cases h;exact agT hs
 case b2s x =>
  simp only[pop] at h
  split at h
  ·cases h;exact Ext.refl _ _
  ·split at h
   ·rename_i cs _
    cases hb:xZ cs with
    | none=>rw[hb] at h;cases h
    | some bs=>rw[hb] at h;cases h;exact Ext.refl _ _
   ·cases h
  ·cases h
 case new z=>cases h;exact sD _ _ _
 case box x =>
  simp only[pop] at h
  split at h
  ·cases h;exact sD _ _ _
  ·cases h
 case make z b l c =>
  simp only[pop] at h
  split at h
  ·split at h
   ·cases h;exact sD _ _ _
   ·cases h
  ·cases h
 case lit z n parts =>
  simp only[pop] at h
  split at h
  ·split at h
   ·cases h;exact sD _ _ _
   ·cases h
  ·cases h
 case call f args=>cases h
 case callv f args =>
  simp only[pop] at h
  split at h<;>cases h
 case store size p x =>
  simp only[pop] at h
  split at h
  ·rename_i b o _
   split at h
   ·cases hw:H.write lo b o (aV (ev ρ x)) with
    | none=>rw[hw] at h;cases h
    | some H1=>rw[hw] at h;cases h;exact GL hw
   ·cases h
  ·cases h
 case app size bytes x y =>
  simp only[pop] at h
  split at h
  ·rename_i n _
   split at h
   ·rename_i new _
    cases ha:fA lo size bytes (ev ρ x) n new H with
    | none=>rw[ha] at h;cases h
    |
     some q =>
     obtain⟨u,H1⟩:=q
     rw[ha] at h;cases h;exact LJ ha
   ·cases h
  ·cases h
 case appz z bytes x n =>
  simp only[pop] at h
  split at h
  ·rename_i k _
   split at h
   ·cases ha:fA lo z.length bytes (ev ρ x) k.toNat (dG k.toNat z) H with
    | none=>rw[ha] at h;cases h
    |
     some q =>
     obtain⟨u,H1⟩:=q
     rw[ha] at h;cases h;exact LJ ha
   ·cases h
  ·cases h
 case copy size x y =>
  simp only[pop] at h
  split at h
  ·cases h;exact Ext.refl _ _
  ·rename_i b o d _ s _ _
   split at h
   ·rename_i new _
    cases hw:H.write lo b o new with
    | none=>rw[hw] at h;cases h
    | some H1=>rw[hw] at h;cases h;exact GL hw
   ·cases h
  ·cases h
 case clear z x =>
  simp only[pop] at h
  split at h
  ·cases h;exact Ext.refl _ _
  ·rename_i b o n _ _
   split at h
   ·cases h;exact Ext.refl _ _
   ·cases hw:H.write lo b o (dG n z) with
    | none=>rw[hw] at h;cases h
    | some H1=>rw[hw] at h;cases h;exact GL hw
  ·cases h
def vD (call:iG):Prop:=∀f args lo H v H',call f args lo H=some (v,H')→Ext lo H H'
theorem N4 {call:iG} (hc:vD call) {lo:Nat} {i:PI} {ρ:Env} {v:Value} {H':aJ} (h:BI call lo i ρ H=some (v,H')):Ext lo H H':=by
 unfold BI at h
 split at h
 ·cases h
 ·cases h;exact Ext.refl _ _
 ·split at h
  ·split at h
   ·rename_i hp
    cases h
    exact Zj hp
   ·rename_i f args _
    have:=hc _ _ _ _ _ _ h
    split at this
    ·exact adX this
    ·exact this
   ·cases h
  ·cases h
theorem Bt {call:iG} {lo:Nat} {i:PI} {ρ aP:Env} {H':aJ} (h:Bx call lo i ρ H=some (aP,H')):∃v,BI call lo i ρ H=some (v,H')∧aP=put ρ i.dst v:=by
 unfold Bx at h
 split at h
 ·rename_i v H1 hv
  cases h
  exact⟨v,hv,rfl⟩
 ·cases h
theorem Kl {call:iG} (hc:vD call) {lo:Nat} {i:PI} {ρ aP:Env} {H':aJ} (h:Bx call lo i ρ H=some (aP,H')):Ext lo H H':=by
 obtain⟨v,h1,_⟩:=Bt h
 exact N4 hc h1
theorem Of {call:iG} (hc:vD call) {lo:Nat}:∀(is:List PI) {ρ aP:Env} {H H':aJ},jC call lo is ρ H=some (aP,H')→Ext lo H H'
 | [],ρ,aP,H,H',h=>by cases h;exact Ext.refl _ _
 |
  i::is,ρ,aP,H,H',h=>by
  rw[jC] at h
  split at h
  ·rename_i h1
   exact(Kl hc h1).trans (Of hc is h)
  ·cases h
theorem Ks {lo:Nat} {body:Env→aJ→Option (Ex×Env×aJ)} (hb:∀ρ H x aP H',body ρ H=some (x,aP,H')→Ext lo H H'):∀(n:Nat) {ρ aP:Env} {H H':aJ} {x:Ex},Bj body n ρ H=some (x,aP,H')→Ext lo H H'
 | 0,_,_,_,_,_,h=>by cases h
 |
  n+1,ρ,aP,H,H',x,h=>by
  rw[Bj] at h
  split at h
  ·rename_i h1
   exact(hb _ _ _ _ _ h1).trans (Ks hb n h)
  ·exact hb _ _ _ _ _ h
theorem lF {call:iG} (hc:vD call) {lo n:Nat}:∀(c:aE) {ρ aP:Env} {H H':aJ} {x:Ex},dR call lo n c ρ H=some (x,aP,H')→Ext lo H H'
 | .skip,_,_,_,_,_,h=>by cases h;exact Ext.refl _ _
 |
  .cV ops,ρ,aP,H,H',x,h=>by
  rw[dR] at h
  cases hp:jC call lo ops ρ H with
  | none=>rw[hp] at h;cases h
  |
   some q =>
   obtain⟨AH,H1⟩:=q
   rw[hp] at h;cases h
   exact Of hc ops hp
 |
  .seq a b,ρ,aP,H,H',x,h=>by
  rw[dR] at h
  split at h
  ·rename_i h1
   exact(lF hc a h1).trans (lF hc b h)
  ·exact lF hc a h
 |
  .cond c a b,ρ,aP,H,H',x,h=>by
  rw[dR] at h
  split at h
  ·split at h
   ·exact lF hc a h
   ·exact lF hc b h
  ·cases h
 |
  .block id a,ρ,aP,H,H',x,h=>by
  rw[dR] at h
  split at h
  ·rename_i h1
   split at h<;>(cases h;exact lF hc a h1)
  ·exact lF hc a h
 |
  .loop a,ρ,aP,H,H',x,h=>by
  rw[dR] at h
  exact Ks (fun ρ H x aP H' h=>lF hc a h) n h
 | .exit id,_,_,_,_,_,h=>by cases h;exact Ext.refl _ _
 | .ret,_,_,_,_,_,h=>by cases h;exact Ext.refl _ _
theorem GJ (E:CS) (T:Tab):∀n,vD (oL E T n)
 | 0=>fun _ _ _ _ _ _ h=>by cases h
 |
  n+1=>fun f args lo H v H' h=>by
  rw[oL] at h
  split at h
  ·rename_i p _
   cases hp:p args H with
   | none=>rw[hp] at h;cases h
   | some u=>rw[hp] at h;cases h;exact Ext.refl _ _
  ·split at h
   ·cases h
   ·rename_i pf _
    split at h
    ·split at h
     ·rename_i AH H1 h1
      cases hr:uC pf.res AH H1 with
      | none=>rw[hr] at h;cases h
      | some u=>rw[hr] at h;cases h;exact lF (GJ E T n) _ h1
     ·rename_i AH H1 h1
      cases hr:uC pf.res AH H1 with
      | none=>rw[hr] at h;cases h
      | some u=>rw[hr] at h;cases h;exact lF (GJ E T n) _ h1
     ·cases h
    ·cases h
end
end Go.PM
namespace Go.PM
theorem Gb {α β:Type} {f:α→Option β}:∀ {l:List α} {ys:List β},l.mapM f=some ys→ys.length=l.length∧∀i (h:i<l.length),f l[i]=ys[i]?
 |
  [],ys,h=>by
  simp at h
  subst h
  exact⟨rfl,fun i h=>absurd h (by simp)⟩
 |
  x::l,ys,h=>by
  simp only[List.mapM_cons,Option.pure_def,Option.bind_eq_bind] at h
  cases h1:f x with
  | none=>rw[h1] at h;cases h
  |
   some y =>
   rw[h1] at h
   cases h2:l.mapM f with
   | none=>rw[h2] at h;cases h
   |
    some zs =>
    rw[h2] at h
    cases h
    obtain⟨k1,k2⟩:=Gb h2
    refine⟨by simp[k1],fun i hi => ?_⟩
    cases i with
    | zero=>simpa using h1
    | succ i=>simpa using k2 i (by simpa using hi)
theorem VY {α β:Type} {f:α→Option β} {l:List α} {ys:List β} (h:l.mapM f=some ys) {i:Nat} {x:α} (hx:l[i]? = some x):∃y,ys[i]? = some y∧f x=some y:=by
 obtain⟨h1,h2⟩:=Gb h
 obtain⟨bF,rfl⟩:=aKk.1 hx
 have NM:i<ys.length:=by omega
 refine⟨ys[i],aKs NM,?_⟩
 rw[h2 i bF,aKs NM]
def G2 (E:CS) (ops:List Oper) (M:List Nat) (i j:Nat) (pi pj:qF) (l:List (Operand×Operand)):Prop :=
 match gZ E pi,gZ E pj with
 | .look,.write | .write,.look=>ahead M i j=true∨∃a b,He pi=some a∧He pj=some b∧Gx ops i j a=true∧(a,b)∈l
 | .write,.write | .quiet,.write | .write,.quiet=>ahead M i j=true
 | _,_=>True
theorem G2.mono {E:CS} {ops:List Oper} {M:List Nat} {i j:Nat} {pi pj:qF} {l l':List (Operand×Operand)} (h:G2 E ops M i j pi pj l) (hl:∀x∈l,x∈l'):G2 E ops M i j pi pj l':=by
 unfold G2 at h ⊢
 split at h
 all_goals first
  | exact h
  | exact h.imp id fun⟨a,b,h1,h2,h3,h4⟩=>⟨a,b,h1,h2,h3,hl _ h4⟩
theorem NP {E:CS} {ops:List Oper} {ps:List qF} {M:List Nat} {j:Nat} {pj:qF} {l:List (Operand×Operand)} (h:conflicts E ops ps M j pj=some l) :
  ∀i,i<j→∀pi,ps[i]? = some pi→G2 E ops M i j pi pj l:=by
 have key:∀(is:List Nat) (l:List (Operand×Operand)),(is.foldr (fun i acc=>match acc,ps[i]? with
  |
   some l,some pi =>
   match gZ E pi,gZ E pj with
   |
    .look,.write | .write,.look =>
    if ahead M i j then some l
    else match He pi,He pj with
     | some a,some b=>if Gx ops i j a then some ((a,b)::l) else none
     | _,_=>none
   | .write,.write | .quiet,.write | .write,.quiet=>if ahead M i j then some l else none
   | _,_=>some l
  | _,_=>none) (some []))=some l→∀i∈is,∀pi,ps[i]? = some pi→G2 E ops M i j pi pj l:=by
  intro is
  induction is with
  | nil=>intro l _ i hi;cases hi
  |
   cons i0 is ih =>
   intro l h i hi pi hpi
   rw[List.foldr_cons] at h
   revert h
   generalize aDX:is.foldr _ (some [])=acc
   intro h
   cases acc with
   | none=>cases h
   |
    some l0 =>
    have ih':=ih l0 aDX
    cases hp0:ps[i0]? with
    | none=>rw[hp0] at h;cases h
    |
     some p0 =>
     rw[hp0] at h
     simp only at h
     have step:(∀x∈l0,x∈l)∧G2 E ops M i0 j p0 pj l:=by
      unfold G2
      split at h
      ·rename_i c1 c2
       try rw[c1,c2]
       split at h
       ·rename_i ha;cases h;exact⟨fun x hx=>hx,.inl ha⟩
       ·split at h
        ·rename_i a b ta tb
         split at h
         ·rename_i hu;cases h;exact⟨fun x hx=>aKU _ hx,.inr ⟨a,b,ta,tb,hu,aKV⟩⟩
         ·cases h
        ·cases h
      ·rename_i c1 c2
       try rw[c1,c2]
       split at h
       ·rename_i ha;cases h;exact⟨fun x hx=>hx,.inl ha⟩
       ·split at h
        ·rename_i a b ta tb
         split at h
         ·rename_i hu;cases h;exact⟨fun x hx=>aKU _ hx,.inr ⟨a,b,ta,tb,hu,aKV⟩⟩
         ·cases h
        ·cases h
      ·rename_i c1 c2
       try rw[c1,c2]
       split at h
       ·rename_i ha;cases h;exact⟨fun x hx=>hx,ha⟩
       ·cases h
      ·rename_i c1 c2
       try rw[c1,c2]
       split at h
       ·rename_i ha;cases h;exact⟨fun x hx=>hx,ha⟩
       ·cases h
      ·rename_i c1 c2
       try rw[c1,c2]
       split at h
       ·rename_i ha;cases h;exact⟨fun x hx=>hx,ha⟩
       ·cases h
      ·cases h
       refine⟨fun x hx=>hx,?_⟩
       first | trivial | (split<;>first | trivial | (simp_all;done)) | (simp_all;done)
     rcases List.mem_cons.1 hi with rfl | hi
     ·rw[hp0] at hpi
      cases hpi
      exact step.2
     ·exact(ih' i hi pi hpi).mono step.1
 exact fun i hi pi hpi=>key _ l h i (aKW.2 hi) pi hpi
structure amK (P:Program) (E:CS) (n:Nat) (ops:List Oper) (i:Nat) (o:Oper) (p:qF) (pi:PI):Prop where
 acE:tE P o.op=some p
 dst:pi.dst=o.dst
 op:pi.op=p
 guard:guardOf ops i o=some pi.g
 bound:∀d,o.dst=some d→d<n
structure Ty (E:CS) (ops:List Oper) (ps:List qF) (M:List Nat) (i:Nat) (o:Oper) (p:qF) (pi:PI):Prop where
 back:∀e∈o.after.toList,Region.binds .any e=true→e.on<i
 guard:∀j w,o.guard=some (j,w)→(M.getD i 0).testBit j=true
 Re:∀t∈o.dst.toList++Aw ops o,∀k ok,ops[k]? = some ok→ok.dst=some t→k=i∨ahead M i k=true
 mask:M.getD i 0=AK o M
 quiet:pi.quiet=(match gZ E p with | .quiet=>true | _=>false)
 aB5:∀k,k<i→∀pk,ps[k]? = some pk→G2 E ops M k i pk p pi.cf
theorem T6 {P:Program} {E:CS} {n:Nat} {ops:List Oper} {ps:List qF} {M:List Nat} {draw:Bool} {i:Nat} {pi:PI} (h:YC E ops ps M n draw i=some pi) {o:Oper} {p:qF} (ho:ops[i]? = some o) (hp:ps[i]? = some p)
  (ZY:tE P o.op=some p):amK P E n ops i o p pi∧(draw=true→Ty E ops ps M i o p pi)∧(draw=false→pi.quiet=false∧pi.cf=[]):=by
 unfold YC at h
 rw[ho,hp] at h
 simp only at h
 split at h
 case isFalse=>cases h
 rename_i hb
 have hbound:∀d,o.dst=some d→d<n:=by
  intro d hd
  rw[hd] at hb
  simpa[avH] using hb
 split at h
 ·cases h
 ·rename_i g hg
  cases draw with
  |
   false =>
   simp only[aKX,if_false] at h
   cases h
   exact⟨⟨ZY,rfl,rfl,hg,hbound⟩,(fun h=>by cases h),fun _=>⟨rfl,rfl⟩⟩
  |
   true =>
   simp only[if_true] at h
   split at h
   case isFalse=>cases h
   rename_i hc
   simp only[aKT,beq_iff_eq] at hc
   obtain⟨⟨⟨c1,c2⟩,c3⟩,c4⟩:=hc
   cases TL:conflicts E ops ps M i p with
   | none=>rw[TL] at h;cases h
   |
    some cf =>
    rw[TL] at h
    cases h
    refine⟨⟨ZY,rfl,rfl,hg,hbound⟩,fun _=>⟨fun e he hbd => ?_,fun j w hj => ?_,fun t ht k ok hk hkd => ?_,c4,rfl,NP TL⟩,(fun h=>by cases h)⟩
    ·have:=aKz.1 c1 e he
     simpa[hbd] using this
    ·rw[hj] at c2
     exact c2
    ·have h1:=aKz.1 c3 t ht
     have hk':k<ops.length:=(aKk.1 hk).1
     have h2:=aKz.1 h1 k (aKW.2 hk')
     rw[hk] at h2
     simp only[aKY,bne_iff_ne,ne_eq,beq_iff_eq] at h2
     rcases h2 with(h2 | h2) | h2
     ·exact absurd hkd h2
     ·exact .inl h2
     ·exact .inr h2
structure auX (P:Program) (E:CS) (n:Nat) (ops:List Oper) (draw:Bool) (wY:List PI) (ps:List qF) (M:List Nat):Prop where
 G3:ps.length=ops.length
 aDS:wY.length=ops.length
 each:∀i o,ops[i]? = some o→∃p pi,ps[i]? = some p∧wY[i]? = some pi∧amK P E n ops i o p pi∧(draw=true→Ty E ops ps M i o p pi)∧(draw=false→pi.quiet=false∧pi.cf=[])
theorem MJ {P:Program} {E:CS} {n:Nat} {ops:Array Oper} {draw:Bool} {wY:List PI} (h:Bo P E n ops draw=some wY):∃ps M,auX P E n ops.toList draw wY ps M:=by
 unfold Bo at h
 split at h
 ·rename_i ps hps
  simp only at h
  generalize (if draw=true then Sc ops.toList [] else [])=M at h
  obtain⟨h1,h2⟩:=Gb hps
  obtain⟨h3,h4⟩:=Gb h
  refine⟨ps,M,h1,by simpa using h3,fun i o ho => ?_⟩
  have bF:=(aKk.1 ho).1
  obtain⟨p,hp,ZY⟩:=VY hps ho
  have hr:(aKh ops.size)[i]? = some i:=by rw[List.getElem?_range];simpa using bF
  obtain⟨pi,hpi,hpp⟩:=VY h hr
  exact⟨p,pi,hp,hpi,T6 hpp ho hp ZY⟩
 ·cases h
theorem Qq {o:Oper} {M:List Nat} {i:Nat} (h:(AK o M).testBit i=true):∃e∈o.after.toList,Region.binds .any e=true∧(e.on=i∨(M.getD e.on 0).testBit i=true):=by
 unfold AK at h
 revert h
 generalize o.after.toList=es
 induction es with
 | nil=>intro h;simp at h
 |
  cons e es ih =>
  intro h
  rw[List.foldr_cons] at h
  split at h
  ·rename_i hb
   rw[Nat.testBit_or,Nat.testBit_or,aKY,aKY] at h
   rcases h with(h | h) | h
   ·obtain⟨e',h1,h2⟩:=ih h
    exact⟨e',aKU _ h1,h2⟩
   ·refine⟨e,aKV,hb,.inl ?_⟩
    rw[Nat.testBit_two_pow] at h
    simpa using h
   ·exact⟨e,aKV,hb,.inr h⟩
  ·obtain⟨e',h1,h2⟩:=ih h
   exact⟨e',aKU _ h1,h2⟩
theorem Yd {ops:List Oper} {M:List Nat} {S:Nat→Prop} (hb:∀i o,ops[i]? = some o→∀e∈o.after.toList,Region.binds .any e=true→e.on<i) (hm:∀i o,ops[i]? = some o→M.getD i 0=AK o M)
  (hS:∀i o,ops[i]? = some o→S i→∀e∈o.after.toList,Region.binds .any e=true→S e.on):∀j o,ops[j]? = some o→(∀e∈o.after.toList,Region.binds .any e=true→S e.on)→∀i,(M.getD j 0).testBit i=true→S i:=by
 intro j
 induction j using Nat.strongRecOn with
 |
  _ j ih =>
  intro o ho hj i hi
  rw[hm j o ho] at hi
  obtain⟨e,he,hbd,h1⟩:=Qq hi
  rcases h1 with rfl | h1
  ·exact hj e he hbd
  ·have bF:=hb j o ho e he hbd
   have hjl:=(aKk.1 ho).1
   have hel:e.on<ops.length:=by omega
   exact ih e.on bF ops[e.on] (aKs hel) (hS e.on _ (aKs hel) (hj e he hbd)) i h1
end Go.PM
namespace Go.PM
def AG (P:Program) (L0:Nat) (call:iG):Prop :=
 ∀f args lo H v H',call f args lo H=some (v,H')→∀m w iV,Rel m L0 H w→L0≤lo→L0≤H.length→RL m args iV→(∀b,H.length≤b→b<H'.length→m b=none) →
  Oc P f∧Calls P f iV.toArray w fun e w'=>∃m' rv,e = .returned rv∧RV m' v rv∧Rel m' L0 H' w'∧Trans lo m H w m' H' w'
section
variable {P:Program} {m:dL} {L0:Nat} {H:aJ} {w:World}
theorem xQ {call:iG} {lo:Nat} {i:PI} {ρ:Env} {v:Value} {H':aJ} (h:BI call lo i ρ H=some (v,H')) :
  (B1 i.g ρ=some false∧v=undef∧H'=H) ∨
  (B1 i.g ρ=some true∧i.cf.all (CF ρ)=true∧(pop lo i.op ρ H=some (.val v H') ∨
   ∃f args,pop lo i.op ρ H=some (.call f args)∧call f args (if i.quiet then H.length else lo) H=some (v,H'))):=by
 unfold BI at h
 split at h
 ·cases h
 ·rename_i hw;cases h;exact .inl ⟨hw,rfl,rfl⟩
 ·rename_i hw
  split at h
  ·rename_i TL
   refine .inr ⟨hw,TL,?_⟩
   split at h
   ·rename_i hp;cases h;exact .inl hp
   ·rename_i f args hp;exact .inr ⟨f,args,hp,h⟩
   ·cases h
  ·cases h
theorem aaW {t:Array Value} {d:Nat} {b:Bool} (h:t.getD d undef = .bool b):t[d]? = some (.bool b):=by
 rcases aKo d t.size with hd | hd
 ·simp[hd] at h ⊢
  exact h
 ·simp[aKZ hd,undef] at h
theorem Ie {ops:Array Oper} {i:Nat} {o:Oper} {g:Option (Nat×Bool)} {ρ:Env} {a:Act} {t:Bool} (hg:guardOf ops.toList i o=some g) (hw:B1 g ρ=some t)
  (hr:∀d∈Aw ops.toList o,RV m (ρ d) (a.tmps.getD d undef)):Region.wanted o (yielded ops a.tmps)=t:=by
 unfold guardOf at hg
 unfold Region.wanted
 cases hgd:o.guard with
 |
  none =>
  rw[hgd] at hg
  cases hg
  cases hw
  rfl
 |
  some jw =>
  obtain⟨j,want⟩:=jw
  rw[hgd] at hg
  simp only at hg
  split at hg
  ·split at hg
   ·rename_i d hd
    cases hg
    have Ph:d∈Aw ops.toList o:=by
     unfold Aw
     rw[hgd]
     simp only[List.mem_append]
     right
     rw[hd]
     simp
    have Hm:=hr d Ph
    simp only[B1] at hw
    split at hw
    ·rename_i b hb
     cases hw
     rw[hb] at Hm
     generalize hx:a.tmps.getD d undef=x at Hm
     cases Hm
     have hy:yielded ops a.tmps j=some b:=by
      unfold yielded
      have hd':(ops[j]?).bind (·.dst)=some d:=by simpa using hd
      rw[hd',Option.bind_some,aaW hx]
     simp only[hy]
     cases b<;>cases want<;>rfl
    ·rename_i vs hb
     cases hw
     rw[hb] at Hm
     generalize hx:a.tmps.getD d undef=x at Hm
     obtain⟨ws,rfl⟩:∃ws,x = .tuple ws:=by cases Hm;exact⟨_,rfl⟩
     have hd':(ops[j]?).bind (·.dst)=some d:=by simpa using hd
     have hy:yielded ops a.tmps j=none:=by
      unfold yielded
      rw[hd',Option.bind_some]
      rcases aKo d a.tmps.size with bF | bF
      ·have:a.tmps[d]? = some (.tuple ws):=by rw[←hx];simp[bF]
       rw[this]
      ·rw[aKZ bF]
     simp only[hy]
     rfl
    ·cases hw
   ·cases hg
  ·cases hg
theorem anM {E:CS} {p:qF} {lo fZ:Nat} {ρ:Env} (h:gZ E p = .quiet):pop lo p ρ H=pop fZ p ρ H:=by
 cases p<;>first | rfl | (simp[gZ] at h;done)
theorem HF {ops:List Oper} {o:Oper} {t:Nat} (h:Operand.tmp t∈o.op.operands):t∈Aw ops o:=by
 unfold Aw tmpsOf
 rw[List.mem_append]
 left
 rw[List.mem_filterMap]
 exact⟨.tmp t,by simpa using h,rfl⟩
theorem Py {op:Op} {p:qF} (h:tE P op=some p):∀x∈op.operands,Ts x=true:=by
 intro x hx
 unfold tE at h
 split at h
 ·rename_i jN
  obtain⟨i,hi,rfl⟩:=Array.getElem_of_mem hx
  exact Array.all_eq_true.1 jN i hi
 ·cases h
theorem Sn {E:CS} {n lo k:Nat} {ops:Array Oper} {o:Oper} {p:qF} {pi:PI} {call:iG} {ρ:Env} {v:Value} {H':aJ} {a:Act} {K:Act→World→Prop} {Q:Exit→Act→World→Prop} (ho:ops[k]? = some o) (GF:amK P E n ops.toList k o p pi)
  (hq:pi.quiet=true→gZ E p = .quiet) (hv:BI call lo pi ρ H=some (v,H')) (hr:∀t∈Aw ops.toList o,RV m (ρ t) (a.tmps.getD t undef)) (hR:Rel m L0 H w) (dQ:L0≤lo) (hlen:L0≤H.length)
  (hf:∀b,H.length≤b→b<H'.length→m b=none) (qO:AG P L0 call)
  (hK:∀m' rv w',RV m' v rv→Rel m' L0 H' w'→Trans (if pi.quiet then H.length else lo) m H w m' H' w'→K (a.put o.dst rv) w'):wpOp P ops Q k K a w:=by
 have hro:∀x∈o.op.operands,RV m (ev ρ x) (a.eval x):=fun x hx=>X5 (Py GF.acE x hx) fun t ht=>hr t (HF (ht▸hx))
 unfold wpOp
 rw[ho]
 simp only
 rcases xQ hv with⟨hw,rfl,rfl⟩ | ⟨hw,_,hp | ⟨f,args,hp,hc⟩⟩
 ·rw[Ie GF.guard hw hr]
  simp only[aKX,if_false]
  exact hK m undef w (RV.undef m) hR (Trans.refl _ m _ w)
 ·rw[Ie GF.guard hw hr]
  simp only[if_true]
  left
  rw[GF.op] at hp
  have hs:cQ P (execOp a.eval o) L0 (if pi.quiet then H.length else lo) m H w v H':=by
   split
   ·rename_i hqq
    rw[anM (fZ:=H.length) (hq hqq)] at hp
    exact ZH GF.acE hp hro hR hlen hf
   ·exact ZH GF.acE hp hro hR dQ hf
  obtain⟨rv,w',m',sN,h1,h2,h3⟩:=hs
  unfold Oper.wp
  rcases sN with sN | ⟨sN,rfl⟩
  ·rw[sN]
   exact hK m' rv w' h1 h2 h3
  ·rw[sN]
   exact hK m' undef w' h1 h2 h3
 ·rw[Ie GF.guard hw hr]
  simp only[if_true]
  left
  rw[GF.op] at hp
  have aA4:L0≤(if pi.quiet then H.length else lo):=by split<;>assumption
  obtain⟨iV,WH,aAI⟩:=aeP GF.acE hp hro
  have sN:=aAI (qO f args _ H v H' hc m w iV hR aA4 hlen WH hf).1
  unfold Oper.wp
  rw[sN w]
  show Calls P f iV.toArray w _
  refine(qO f args _ H v H' hc m w iV hR aA4 hlen WH hf).2.mono ?_
  rintro e w' ⟨m',rv,rfl,h1,h2,h3⟩
  exact hK m' rv w' h1 h2 h3
end
end Go.PM
namespace Go.PM
theorem JG {call:iG} {lo:Nat}:∀ {wY:List PI} {ρ aP:Env} {H H':aJ},jC call lo wY ρ H=some (aP,H') →
  ∃st:Nat→Env×aJ,st 0=(ρ,H)∧st wY.length=(aP,H')∧∀i pi,wY[i]? = some pi→Bx call lo pi (st i).1 (st i).2=some (st (i+1))
 |
  [],ρ,aP,H,H',h=>by
  cases h
  exact⟨fun _=>(ρ,H),rfl,rfl,fun i pi hi=>by simp at hi⟩
 |
  x::wY,ρ,aP,H,H',h=>by
  rw[jC] at h
  split at h
  ·rename_i AH H1 h1
   obtain⟨st,h2,h3,h4⟩:=JG h
   refine⟨fun i=>match i with | 0=>(ρ,H) | i+1=>st i,rfl,h3,fun i pi hi => ?_⟩
   cases i with
   |
    zero =>
    simp at hi
    subst hi
    show Bx call lo x ρ H=some (st 0)
    rw[h1,h2]
   | succ i=>exact h4 i pi (by simpa using hi)
  ·cases h
theorem kK {H1 H2:aJ} {b:Nat} (h:H2[b]? = H1[b]?):Live H2 b↔Live H1 b:=by
 unfold Live
 rw[h]
theorem Rel.restrict {m:dL} {L0:Nat} {H1 H2:aJ} {w:World} (h:Rel m L0 H2 w) (hs:∀b,b<H1.length→H2[b]? = H1[b]?):Rel m L0 H1 w:=by
 refine⟨h.valid,fun b l cs e p hm hb=>h.row b l cs e p hm ?_,fun b1 b2 l1 l2 hb h1 h2 Dw JM=>h.inj b1 b2 l1 l2 hb h1 h2 ((kK (hs b1 Dw.lt)).2 Dw) ((kK (hs b2 JM.lt)).2 JM),fun x hx=>⟨(h.FY x hx).1,fun b l hb hm hl=>(h.FY x hx).2 b l hb hm ((kK (hs b hl.lt)).2 hl)⟩⟩
 rw[hs b (aKk.1 hb).1]
 exact hb
theorem Rel.grow {m:dL} {L0:Nat} {H1 H2:aJ} {w:World} (h:Rel m L0 H1 w) (hs:∀b,b<H1.length→H2[b]? = H1[b]?) (hd:∀b,H1.length≤b→b<H2.length→m b=none):Rel m L0 H2 w:=by
 have lt:∀b l,m b=some l→b<H2.length→b<H1.length:=fun b l hm hb=>by
  rcases aKo b H1.length with h | h
  ·exact h
  ·rw[hd b h hb] at hm;cases hm
 refine⟨h.valid,fun b l cs e p hm hb=>h.row b l cs e p hm ?_,fun b1 b2 l1 l2 hb h1 h2 Dw JM=>h.inj b1 b2 l1 l2 hb h1 h2 ((kK (hs b1 (lt b1 l1 h1 Dw.lt))).1 Dw) ((kK (hs b2 (lt b2 l2 h2 JM.lt))).1 JM),fun x hx=>⟨(h.FY x hx).1,fun b l hb hm hl=>(h.FY x hx).2 b l hb hm ((kK (hs b (lt b l hm hl.lt))).1 hl)⟩⟩
 rw[←hs b (lt b l hm (aKk.1 hb).1)]
 exact hb
structure Text (P:Program) (E:CS) (n:Nat) (ops:Array Oper) (wY:List PI) (ps:List qF) (M:List Nat) (call:iG) (lo:Nat) (st:Nat→Env×aJ):Prop where
 ok:auX P E n ops.toList true wY ps M
 ext:vD call
 step:∀i pi,wY[i]? = some pi→Bx call lo pi (st i).1 (st i).2=some (st (i+1))
section
variable {P:Program} {E:CS} {n:Nat} {ops:Array Oper} {wY:List PI} {ps:List qF} {M:List Nat} {call:iG} {lo:Nat} {st:Nat→Env×aJ}
theorem Text.at (T:Text P E n ops wY ps M call lo st) {i:Nat} (hi:i<ops.size):∃o p pi,ops[i]? = some o∧ps[i]? = some p∧wY[i]? = some pi∧amK P E n ops.toList i o p pi∧Ty E ops.toList ps M i o p pi ∧
  ∃v,BI call lo pi (st i).1 (st i).2=some (v,(st (i+1)).2)∧(st (i+1)).1=put (st i).1 o.dst v:=by
 have ho:ops.toList[i]? = some ops[i]:=by simp[hi]
 obtain⟨p,pi,h1,h2,h3,h4,_⟩:=T.ok.each i _ ho
 obtain⟨v,h5,h6⟩:=Bt (T.step i pi h2)
 exact⟨ops[i],p,pi,by simp[hi],h1,h2,h3,h4 rfl,v,h5,by rw[h6,h3.dst]⟩
theorem Text.aAV (T:Text P E n ops wY ps M call lo st) {i:Nat} (hi:i<ops.size):(st i).2.length≤(st (i+1)).2.length:=by
 obtain⟨o,p,pi,_,_,_,_,_,v,hv,_⟩:=T.at hi
 exact(N4 T.ext hv).len
theorem Text.len (T:Text P E n ops wY ps M call lo st) {i:Nat}:∀ {j:Nat},i≤j→j≤ops.size→(st i).2.length≤(st j).2.length:=by
 intro j Qo
 induction j with
 | zero =>
    intro _;have:i=0:=by omega
    subst this;exact aKl _
 |
  succ j ih =>
  intro hj
  rcases aKo i (j+1) with h | h
  ·exact aKm (ih (by omega) (by omega)) (T.aAV (by omega))
  ·have:i=j+1:=by omega
   subst this;exact aKl _
theorem Text.aAz (T:Text P E n ops wY ps M call lo st) {i:Nat} {p:qF} (hi:i<ops.size) (hp:ps[i]? = some p) (hw:gZ E p ≠ .write):∀b,b<(st i).2.length→(st (i+1)).2[b]? = (st i).2[b]? := by
 intro b hb
 obtain⟨o,p',pi,_,BJ,_,GF,hdr,v,hv,_⟩:=T.at hi
 rw[hp] at BJ
 cases BJ
 rcases xQ hv with⟨_,_,h⟩ | ⟨_,_,h | ⟨f,args,h1,h2⟩⟩
 ·rw[h]
 ·rw[GF.op] at h
  by_cases hq:gZ E p = .quiet
  ·rw[anM (fZ:=(st i).2.length) hq] at h
   exact(Zj h).low b hb hb
  ·
   have:(st (i+1)).2=(st i).2:=by
    cases p<;>first
     | (exact absurd rfl hw)
     | (exact absurd rfl hq)
     | (rw[Bv rfl] at h;exact(Ff h).2)
     | skip
    case load agg size q =>
     simp only[pop] at h
     cases hl:qL agg size (ev (st i).1 q) (st i).2 with
     | none=>rw[hl] at h;cases h
     | some u=>rw[hl] at h;injection h with h;injection h with _ h;exact h.symm
    case b2s x =>
     simp only[pop] at h
     split at h
     ·injection h with h;injection h with _ h;exact h.symm
     ·split at h
      ·rename_i cs _
       cases hb:xZ cs with
       | none=>rw[hb] at h;cases h
       | some bs=>rw[hb] at h;injection h with h;injection h with _ h;exact h.symm
      ·cases h
     ·cases h
    case sub size x l hh mx =>
     simp only[pop] at h
     cases mx with
     | some mx=>exact absurd rfl hq
     |
      none =>
      cases hs:EN size (ev (st i).1 x) (l.map (ev (st i).1)) (hh.map (ev (st i).1)) ((none:Option Operand).map (ev (st i).1)) (st i).2 with
      | none=>rw[hs] at h;cases h
      |
       some q =>
       obtain⟨u,H1⟩:=q
       rw[hs] at h
       injection h with h;injection h with _ h
       subst h
       unfold EN at hs
       simp only[Option.map_none,aK0,aKX,false_and,if_false] at hs
       repeat' (split at hs)
       all_goals first
        | (cases hs;done)
        | (injection hs with hs;injection hs with _ hs;exact hs.symm)
    case call f args=>cases h
   rw[this]
 ·rw[GF.op] at h1
  have hq:pi.quiet=true:=by
   rw[hdr.quiet]
   rcases vZ h1 with⟨g,as,rfl⟩ | ⟨g,as,rfl⟩
   ·simp only[gZ] at hw ⊢
    split at hw
    ·exact absurd rfl hw
    ·rename_i h;rw[if_neg h]
   ·rfl
  rw[hq] at h2
  exact(T.ext _ _ _ _ _ _ h2).low b hb hb
end
end Go.PM
namespace Go.PM
theorem Gm {H H':aJ} {lo b o:Nat} {new:List Value} (h:H.write lo b o new=some H') {b':Nat} (hb:b'≠b):H'[b']? = H[b']? := by
 obtain⟨cs,e,p,h1,h2,h3,h4,rfl⟩:=Dx h
 exact aKK (Ne.symm hb)
theorem Mt {H H':aJ} {lo size bytes add:Nat} {x v:Value} {new:List Value} (h:fA lo size bytes x add new H=some (v,H')) {b':Nat} (hb:kP x≠some b') (bF:b'<H.length):H'[b']? = H[b']? := by
 unfold fA at h
 split at h
 case isFalse=>cases h
 split at h
 ·split at h
  ·split at h
   ·cases h;rfl
   ·split at h
    ·cases h;exact aKC bF
    ·cases h
  ·cases h
 ·rename_i b o n c
  have gD:b'≠b:=fun e=>hb (by rw[e];rfl)
  split at h
  ·split at h
   ·split at h
    ·split at h
     ·cases h;rfl
     ·cases hw:aJ.write H lo b (o+n*size) new with
      | none=>rw[hw] at h;cases h
      | some H1=>rw[hw] at h;cases h;exact Gm hw gD
    ·split at h
     ·split at h
      ·split at h
       ·cases h
        rw[aKC (by simpa using bF)]
        exact aKK (Ne.symm gD)
       ·cases h
      ·cases h;exact aKC bF
     ·cases h
   ·cases h
  ·cases h
 ·cases h
theorem asI {E:CS} {lo:Nat} {p:qF} {ρ:Env} {H H':aJ} {v:Value} {x:Operand} (h:pop lo p ρ H=some (.val v H')) (hw:gZ E p = .write) (ht:He p=some x) {b':Nat} (hb:kP (ev ρ x)≠some b') (bF:b'<H.length):H'[b']? = H[b']? := by
 cases p<;>first | (cases ht;done) | (cases hw;done) | skip
 case sub size y l hh mx=>cases mx<;>cases hw
 case store size q y =>
  cases ht
  simp only[pop] at h
  split at h
  ·rename_i b o he
   rw[he] at hb
   have gD:b'≠b:=fun e=>hb (by rw[e];rfl)
   split at h
   ·cases hw:H.write lo b o (aV (ev ρ y)) with
    | none=>rw[hw] at h;cases h
    | some H1=>rw[hw] at h;cases h;exact Gm hw gD
   ·cases h
  ·cases h
 case app size bytes y z =>
  cases ht
  simp only[pop] at h
  split at h
  ·rename_i n _
   split at h
   ·rename_i new _
    cases ha:fA lo size bytes (ev ρ x) n new H with
    | none=>rw[ha] at h;cases h
    |
     some q =>
     obtain⟨u,H1⟩:=q
     rw[ha] at h;cases h;exact Mt ha hb bF
   ·cases h
  ·cases h
 case appz z bytes y n =>
  cases ht
  simp only[pop] at h
  split at h
  ·rename_i k _
   split at h
   ·cases ha:fA lo z.length bytes (ev ρ x) k.toNat (dG k.toNat z) H with
    | none=>rw[ha] at h;cases h
    |
     some q =>
     obtain⟨u,H1⟩:=q
     rw[ha] at h;cases h;exact Mt ha hb bF
   ·cases h
  ·cases h
 case copy size y z =>
  cases ht
  simp only[pop] at h
  split at h
  ·cases h;rfl
  ·rename_i b o d _ s he _
   rw[he] at hb
   have gD:b'≠b:=fun e=>hb (by rw[e];rfl)
   split at h
   ·rename_i new _
    cases hw:H.write lo b o new with
    | none=>rw[hw] at h;cases h
    | some H1=>rw[hw] at h;cases h;exact Gm hw gD
   ·cases h
  ·cases h
 case clear z y =>
  cases ht
  simp only[pop] at h
  split at h
  ·cases h;rfl
  ·rename_i b o n _ he
   rw[he] at hb
   have gD:b'≠b:=fun e=>hb (by rw[e];rfl)
   split at h
   ·cases h;rfl
   ·cases hw:H.write lo b o (dG n z) with
    | none=>rw[hw] at h;cases h
    | some H1=>rw[hw] at h;cases h;exact Gm hw gD
  ·cases h
theorem S6 {H:aJ} {b o n:Nat} {cs:List Value} (h:H.read b o n=some cs):b<H.length:=by
 unfold aJ.read at h
 split at h
 ·rename_i hb;exact(aKk.1 hb).1
 ·cases h
theorem Ik {H H2:aJ} {b o n:Nat} (h:H2[b]? = H[b]?):H2.read b o n=H.read b o n:=by
 unfold aJ.read
 rw[h]
theorem YF {agg:Bool} {size:Nat} {x v:Value} {H H2:aJ} (h:qL agg size x H=some v) (hb:∀b,kP x=some b→b<H.length→H2[b]? = H[b]?):qL agg size x H2=some v:=by
 unfold qL at h ⊢
 split at h
 ·rename_i b o
  have bF:b<H.length:=by
   split at h
   ·cases hr:H.read b o size with
    | none=>rw[hr] at h;cases h
    | some cs=>exact S6 hr
   ·cases hr:H.read b o 1 with
    | none=>rw[hr] at h;cases h
    | some cs=>exact S6 hr
  have e:=hb b rfl bF
  simp only[Ik e]
  exact h
 ·cases h
theorem UR {E:CS} {lo:Nat} {p:qF} {ρ:Env} {H H' H2:aJ} {v:Value} (h:pop lo p ρ H=some (.val v H')) (hc:gZ E p = .look) (hb:∀x,He p=some x→∀b,kP (ev ρ x)=some b→b<H.length→H2[b]? = H[b]?) :
  H'=H∧pop lo p ρ H2=some (.val v H2):=by
 cases p<;>first | (cases hc;done) | skip
 case call f args=>simp only[gZ] at hc;split at hc<;>cases hc
 case load agg size q =>
  simp only[pop] at h ⊢
  cases hl:qL agg size (ev ρ q) H with
  | none=>rw[hl] at h;cases h
  |
   some u =>
   rw[hl] at h
   cases h
   refine⟨rfl,?_⟩
   rw[YF hl (hb q rfl)]
   rfl
 case b2s x =>
  simp only[pop] at h ⊢
  split at h
  ·cases h;exact⟨rfl,rfl⟩
  ·rename_i b o n _ he
   split at h
   ·rename_i cs hr
    cases hbs:xZ cs with
    | none=>rw[hbs] at h;cases h
    |
     some bs =>
     rw[hbs] at h
     cases h
     refine⟨rfl,?_⟩
     have e:=hb x rfl b (by rw[he];rfl) (S6 hr)
     rw[Ik e,hr]
     simp only[hbs]
     rfl
   ·cases h
  ·cases h
 case sub size x l hh mx =>
  cases mx with
  | some mx=>cases hc
  |
   none =>
   simp only[pop] at h ⊢
   cases hs:EN size (ev ρ x) (l.map (ev ρ)) (hh.map (ev ρ)) ((none:Option Operand).map (ev ρ)) H with
   | none=>rw[hs] at h;cases h
   |
    some q =>
    obtain⟨u,H1⟩:=q
    rw[hs] at h
    cases h
    have xD:=hb x rfl
    generalize ev ρ x=xv at hs xD
    have key:H1=H∧EN size xv (l.map (ev ρ)) (hh.map (ev ρ)) ((none:Option Operand).map (ev ρ)) H2=some (u,H2):=by
     unfold EN at hs ⊢
     simp only[Option.map_none,aK0,aKX,false_and,if_false] at hs ⊢
     split at hs
     ·repeat' (split at hs)
      all_goals first | (cases hs;done) | skip
      cases hs
      simp_all
     ·rename_i b o n c
      split at hs
      ·rename_i cs e p lX
       have e1:=xD b rfl (aKk.1 lX).1
       rw[e1,lX]
       simp only
       repeat' (split at hs)
       all_goals first | (cases hs;done) | skip
       cases hs
       simp_all
      ·cases hs
     ·cases hs
    rw[key.2]
    exact⟨key.1,rfl⟩
section
variable {P:Program} {E:CS} {n:Nat} {ops:Array Oper} {wY:List PI} {ps:List qF} {M:List Nat} {call:iG} {lo:Nat} {st:Nat→Env×aJ}
theorem Text.aiX (T:Text P E n ops wY ps M call lo st) {i:Nat}:∀ {j:Nat},i≤j→j≤ops.size→Ext lo (st i).2 (st j).2:=by
 intro j Qo
 induction j with
 | zero =>
    intro _;have:i=0:=by omega
    subst this;exact Ext.refl _ _
 |
  succ j ih =>
  intro hj
  rcases aKo i (j+1) with h | h
  ·obtain⟨o,p,pi,_,_,_,_,_,v,hv,_⟩:=T.at (i:=j) (by omega)
   exact(ih (by omega) (by omega)).trans (N4 T.ext hv)
  ·have:i=j+1:=by omega
   subst this;exact Ext.refl _ _
theorem Text.aiG (T:Text P E n ops wY ps M call lo st) {i:Nat}:∀ {j:Nat},i≤j→j≤ops.size→∀b,b<(st i).2.length →
  (∀k,i≤k→k<j→∀p pi,ps[k]? = some p→wY[k]? = some pi→gZ E p = .write→B1 pi.g (st k).1=some true→∃x,He p=some x∧kP (ev (st k).1 x)≠some b) →
  (st j).2[b]? = (st i).2[b]? := by
 intro j Qo
 induction j with
 | zero =>
      intro _ b _ _;have:i=0:=by omega
      subst this;rfl
 |
  succ j ih =>
  intro hj b hb hk
  rcases aKo i (j+1) with h | h
  ·have bF:b<(st j).2.length:=aKn hb (T.len (by omega) (by omega))
   have h1:(st (j+1)).2[b]? = (st j).2[b]? := by
    obtain⟨o,p,pi,_,hp,hpi,GF,_,v,hv,_⟩:=T.at (i:=j) (by omega)
    by_cases hw:gZ E p = .write
    ·rcases xQ hv with⟨_,_,h⟩ | ⟨hwt,_,h | ⟨f,args,h1,h2⟩⟩
     ·rw[h]
     ·rw[GF.op] at h
      obtain⟨x,hx,gD⟩:=hk j (by omega) (by omega) p pi hp hpi hw hwt
      exact asI h hw hx gD bF
     ·rw[GF.op] at h1
      obtain⟨x,hx,gD⟩:=hk j (by omega) (by omega) p pi hp hpi hw hwt
      rcases vZ h1 with⟨g,as,rfl⟩ | ⟨g,as,rfl⟩<;>cases hx
    ·exact T.aAz (by omega) hp hw b bF
   rw[h1]
   exact ih (by omega) (by omega) b hb fun k hk1 Zd=>hk k hk1 (by omega)
  ·have:i=j+1:=by omega
   subst this;rfl
theorem Text.same (T:Text P E n ops wY ps M call lo st) {i j:Nat} (Qo:i≤j) (hj:j≤ops.size) (hk:∀k,i≤k→k<j→∀p,ps[k]? = some p→gZ E p ≠ .write):∀b,b<(st i).2.length→(st j).2[b]? = (st i).2[b]? :=
 fun b hb=>T.aiG Qo hj b hb fun k h1 h2 p _ hp _ hw _=>absurd hw (hk k h1 h2 p hp)
theorem Text.SL (T:Text P E n ops wY ps M call lo st) {i t:Nat}:∀ {j:Nat},i≤j→j≤ops.size→(∀k o,i≤k→k<j→ops[k]? = some o→o.dst≠some t)→(st j).1 t=(st i).1 t:=by
 intro j Qo
 induction j with
 | zero =>
      intro _ _;have:i=0:=by omega
      subst this;rfl
 |
  succ j ih =>
  intro hj hk
  rcases aKo i (j+1) with h | h
  ·obtain⟨o,p,pi,ho,hp,hpi,GF,_,v,hv,he⟩:=T.at (i:=j) (by omega)
   rw[he]
   have gD:=hk j o (by omega) (by omega) ho
   have h1:put (st j).1 o.dst v t=(st j).1 t:=by
    cases hd:o.dst with
    | none=>rfl
    |
     some d =>
     rw[hd] at gD
     show (if t=d then v else _)=_
     rw[if_neg (fun e=>gD (by rw[e]))]
   rw[h1]
   exact ih (by omega) (by omega) fun k o hk1 Zd=>hk k o hk1 (by omega)
  ·have:i=j+1:=by omega
   subst this;rfl
end
end Go.PM
namespace Go.PM
theorem Bu {M:List Nat} {i j:Nat} (h:i<j):ahead M i j=(M.getD j 0).testBit i:=by
 unfold ahead
 have e1:Nat.max i j=j:=Nat.max_eq_right (by omega)
 have e2:aKS i j=i:=Nat.min_eq_left (by omega)
 rw[e1,e2]
theorem aiS {M:List Nat} {i j:Nat} (h:j<i):ahead M i j=(M.getD i 0).testBit j:=by
 unfold ahead
 have e1:Nat.max i j=i:=Nat.max_eq_left (by omega)
 have e2:aKS i j=j:=Nat.min_eq_right (by omega)
 rw[e1,e2]
theorem Wf {a:Act} {d t:Nat} {v:Value} (hd:d<a.tmps.size):(a.put (some d) v).tmps.getD t undef=if t=d then v else a.tmps.getD t undef:=by
 show (a.tmps.setIfInBounds d v).getD t undef=_
 rcases aKo t a.tmps.size with h | h
 ·by_cases e:t=d
  ·subst e;simp[h]
  ·simp[h,e,Ne.symm e]
 ·have:t≠d:=by omega
  simp[h,this]
theorem I3 (a:Act) (d:Option Nat) (v:Value):(a.put d v).tmps.size=a.tmps.size:=by
 cases d<;>simp[Act.put]
theorem Jz (a:Act) (d:Option Nat) (v:Value):(a.put d v).defers=a.defers:=by
 cases d<;>rfl
section
variable {P:Program} {E:CS} {n:Nat} {ops:Array Oper} {wY:List PI} {ps:List qF} {M:List Nat} {call:iG} {lo L0:Nat} {st:Nat→Env×aJ}
structure wR (E:CS) (n:Nat) (ops:Array Oper) (ps:List qF) (lo L0:Nat) (st:Nat→Env×aJ) (m0:dL) (w0:World) (ds:List Deferred) (S:Nat→Prop) (m:dL) (c:Nat) (a:Act) (w:World):Prop where
 I4:a.tmps.size=n
 defs:a.defers=ds
 back:∀i o,ops.toList[i]? = some o→S i→∀e∈o.after.toList,Region.binds .any e=true→S e.on
 tm:∀t j,j≤ops.size→(∀i o,ops.toList[i]? = some o→o.dst=some t→(S i↔i<j))→RV m ((st j).1 t) (a.tmps.getD t undef)
 QM:c≤ops.size
 before:∀i p,i<c→ps[i]? = some p→gZ E p = .write→S i
 atc:c<ops.size→¬S c∧∃p,ps[c]? = some p∧gZ E p = .write
 rel:Rel m L0 (st c).2 w
 tr:Trans lo m0 (st 0).2 w0 m (st c).2 w
 dom:∀b l,m b=some l→m0 b≠none∨∃i,S i∧i<ops.size∧(st i).2.length≤b∧b<(st (i+1)).2.length
theorem Text.anc (T:Text P E n ops wY ps M call lo st) {S:Nat→Prop} (hS:∀i o,ops.toList[i]? = some o→S i→∀e∈o.after.toList,Region.binds .any e=true→S e.on) {k:Nat} {o:Oper} (ho:ops.toList[k]? = some o)
  (hk:∀e∈o.after.toList,Region.binds .any e=true→S e.on) {i:Nat} (hi:(M.getD k 0).testBit i=true):S i :=
 Yd (fun i o hio=>by
   obtain⟨p,pi,_,_,_,hd,_⟩:=T.ok.each i o hio
   exact(hd rfl).back) (fun i o hio=>by
   obtain⟨p,pi,_,_,_,hd,_⟩:=T.ok.each i o hio
   exact(hd rfl).mask) hS k o ho hk i hi
theorem Text.Y8 (T:Text P E n ops wY ps M call lo st) {i:Nat} {p:qF} (hi:i<ops.size) (hp:ps[i]? = some p) (h:gZ E p = .pure∨gZ E p = .look):(st (i+1)).2=(st i).2:=by
 obtain⟨o,p',pi,_,BJ,_,GF,hdr,v,hv,_⟩:=T.at hi
 rw[hp] at BJ
 cases BJ
 rcases xQ hv with⟨_,_,h'⟩ | ⟨_,_,h' | ⟨f,args,h1,h2⟩⟩
 ·exact h'
 ·rw[GF.op] at h'
  rcases h with h | h
  ·have:yB p=true:=by
    cases p<;>first | rfl | (cases h;done) | skip
    case sub s x l hh mx=>cases mx<;>cases h
    case call f as=>simp only[gZ] at h;split at h<;>cases h
   rw[Bv this] at h'
   exact(Ff h').2
  ·exact(UR h' h (fun _ _ _ _ _=>rfl)).1
 ·exfalso
  rw[GF.op] at h1
  rcases vZ h1 with⟨g,as,rfl⟩ | ⟨g,as,rfl⟩
  ·simp only[gZ] at h
   split at h<;>rcases h with h | h<;>cases h
  ·rcases h with h | h<;>cases h
theorem acT {op:Op} {p:qF} {x:Operand} (h:tE P op=some p) (ht:He p=some x):x∈op.operands:=by
 unfold tE at h
 split at h
 case isFalse=>cases h
 cases op with
 |
  load t q =>
  dsimp only at h
  cases hi:oM P t with
  | none=>rw[hi] at h;cases h
  | some u=>rw[hi] at h;cases h;cases ht;simp[Op.operands]
 |
  store t q v =>
  dsimp only at h
  cases hi:P.info? t with
  | none=>rw[hi] at h;cases h
  | some u=>rw[hi] at h;cases h;cases ht;simp[Op.operands]
 |
  slice t y l hh mx =>
  dsimp only at h
  split at h
  ·split at h
   ·cases h;cases ht
   ·cases h
  ·rename_i e _
   cases hi:oM P e with
   | none=>rw[hi] at h;cases h
   | some u=>rw[hi] at h;cases h;cases ht;simp[Op.operands]
  ·cases h
 |
  convert s d y =>
  dsimp only at h
  repeat' (split at h)
  all_goals first
   | (cases h;done)
   | (cases h;cases ht;done)
   | (cases h;cases ht;simp[Op.operands])
 |
  call c =>
  obtain⟨callee,args,ts⟩:=c
  cases callee with
  |
   builtin b =>
   simp only[rU] at h
   repeat' (split at h)
   all_goals first
    | (cases h;done)
    | (cases h;cases ht;done)
    | skip
   all_goals
    cases h
    cases ht
    have hm:x∈args.toList:=by simp_all
    simpa[Op.operands,Call.operands] using hm
  |
   value f =>
   cases f with
   | tmp g'=>cases h;cases ht
   | func g'=>cases h;cases ht
   | _=>cases h
  | invoke r s=>cases h
 |
  _ =>
  exfalso
  dsimp only at h
  try unfold Ed at h
  repeat' (split at h)
  all_goals first
   | contradiction
   | (cases h;done)
   | (cases h;cases ht;done)
   | exact map_none h (by intro y h;cases h;cases ht)
end
end Go.PM
namespace Go.PM
theorem IE (p:Nat→Prop):∀(d c N:Nat),N-c=d→c≤N→∃c',c≤c'∧c'≤N∧(∀i,c≤i→i<c'→¬p i)∧(c'<N→p c')
 | 0,c,N,hd,hc=>⟨c,aKl _,hc,fun i h1 h2=>by omega,fun h=>by omega⟩
 |
  d+1,c,N,hd,hc=>by
  by_cases hp:p c
  ·exact⟨c,aKl _,hc,fun i h1 h2=>by omega,fun _=>hp⟩
  ·obtain⟨c',h1,h2,h3,h4⟩:=IE p d (c+1) N (by omega) (by omega)
   refine⟨c',by omega,h2,fun i hi1 uU => ?_,h4⟩
   rcases aKo c i with h | h
   ·exact h3 i h uU
   ·have:i=c:=by omega
    subst this;exact hp
theorem agG {m:dL} {v r:Value} {b:Nat} (h:RV m v r) (hb:kP v=some b):∃l,m b=some l:=by
 cases h<;>first | (cases hb;done) | (cases hb;exact⟨_,by assumption⟩)
section
variable {P:Program} {E:CS} {n:Nat} {ops:Array Oper} {wY:List PI} {ps:List qF} {M:List Nat} {call:iG} {lo L0:Nat} {st:Nat→Env×aJ}
 {m0:dL} {w0:World} {ds:List Deferred} {S:Nat→Prop} {m:dL} {c:Nat} {a:Act} {w:World} {k:Nat} {o:Oper} {p:qF} {pi:PI}
structure At (P:Program) (E:CS) (n:Nat) (ops:Array Oper) (wY:List PI) (ps:List qF) (M:List Nat) (S:Nat→Prop) (k:Nat) (o:Oper) (p:qF) (pi:PI):Prop where
 lt:k<ops.size
 eo:ops[k]? = some o
 ep:ps[k]? = some p
 epi:wY[k]? = some pi
 ok:amK P E n ops.toList k o p pi
 dr:Ty E ops.toList ps M k o p pi
 aDJ:¬S k
 anc:∀i,(M.getD k 0).testBit i=true→S i
 desc:∀i,i<ops.size→S i→(M.getD i 0).testBit k=true→False
theorem At.ah (A:At P E n ops wY ps M S k o p pi) {i:Nat} (hi:i<ops.size) (h:i=k∨ahead M k i=true):S i↔i<k:=by
 rcases aK1 i k with h1 | h1 | h1
 ·refine⟨fun _=>h1,fun _ => ?_⟩
  rcases h with h | h
  ·omega
  ·rw[aiS h1] at h;exact A.anc i h
 ·subst h1
  exact⟨fun h=>absurd h A.aDJ,fun h=>by omega⟩
 ·refine⟨fun hs => ?_,fun h=>by omega⟩
  rcases h with h | h
  ·omega
  ·rw[Bu h1] at h;exact absurd h (fun h=>A.desc i hi hs h)
theorem Ia {i:Nat} {oi:Oper} (h:ops.toList[i]? = some oi):i<ops.size:=by
 have:=(aKk.1 h).1
 simpa using this
theorem At.reads (A:At P E n ops wY ps M S k o p pi) (I:wR E n ops ps lo L0 st m0 w0 ds S m c a w):∀t∈Aw ops.toList o,RV m ((st k).1 t) (a.tmps.getD t undef):=by
 intro t ht
 refine I.tm t k (aK2 A.lt) fun i oi hi hd => ?_
 exact A.ah (Ia hi) (A.dr.Re t (List.mem_append_right _ ht) i oi hi hd)
theorem At.operand (A:At P E n ops wY ps M S k o p pi) (I:wR E n ops ps lo L0 st m0 w0 ds S m c a w) {x:Operand} (hx:x∈o.op.operands):RV m (ev (st k).1 x) (a.eval x) :=
 X5 (Py A.ok.acE x hx) fun t ht=>A.reads I t (HF (ht▸hx))
theorem At.pair (T:Text P E n ops wY ps M call lo st) {i j:Nat} {p q:qF} (Qo:i<j) (hj:j<ops.size) (hp:ps[i]? = some p) (hq:ps[j]? = some q):∃qi,wY[j]? = some qi∧G2 E ops.toList M i j p q qi.cf:=by
 obtain⟨o,q',qi,_,Ob,hqi,_,hd,_⟩:=T.at hj
 rw[hq] at Ob
 cases Ob
 exact⟨qi,hqi,hd.aB5 i Qo p hp⟩
theorem wR.late (T:Text P E n ops wY ps M call lo st) (I:wR E n ops ps lo L0 st m0 w0 ds S m c a w) {i:Nat} {q:qF} (hi:c<i) (hn:i<ops.size) (hS:S i) (hq:ps[i]? = some q):gZ E q = .pure∨gZ E q = .look:=by
 obtain⟨hcS,pc,hpc,Sp⟩:=I.atc (by omega)
 obtain⟨qi,_,lD⟩:=At.pair T hi hn hpc hq
 unfold G2 at lD
 rw[Sp] at lD
 obtain⟨oi,_,_,hoi,_⟩:=T.at hn
 have WD:ops.toList[i]? = some oi:=by simpa using hoi
 have fin:ahead M c i=true→False:=fun h=>by
  rw[Bu hi] at h
  exact hcS (T.anc I.back WD (I.back i oi WD hS) h)
 cases mM:gZ E q with
 | pure=>exact .inl rfl
 | look=>exact .inr rfl
 | quiet=>rw[mM] at lD;exact absurd lD fin
 | write=>rw[mM] at lD;exact absurd lD fin
theorem wR.Re (T:Text P E n ops wY ps M call lo st) (I:wR E n ops ps lo L0 st m0 w0 ds S m c a w) (A:At P E n ops wY ps M S k o p pi) {m':dL} {v rv:Value} (hm:∀b l,m b=some l→m' b=some l) (hv:RV m' v rv)
  (he:(st (k+1)).1=put (st k).1 o.dst v):∀t j,j≤ops.size→(∀i o,ops.toList[i]? = some o→o.dst=some t→((i=k∨S i)↔i<j))→RV m' ((st j).1 t) ((a.put o.dst rv).tmps.getD t undef):=by
 intro t j hj hw
 have GF:ops.toList[k]? = some o:=by simpa using A.eo
 cases hd:o.dst with
 |
  none =>
  show RV m' _ (a.tmps.getD t undef)
  refine(I.tm t j hj fun i oi hi hdi => ?_).mono hm
  have gD:i≠k:=fun e=>by subst e;rw[GF] at hi;cases hi;rw[hd] at hdi;cases hdi
  rw[←hw i oi hi hdi]
  simp[gD]
 |
  some d =>
  rw[Wf (by rw[I.I4];exact A.ok.bound d hd)]
  by_cases htd:t=d
  ·subst htd
   rw[if_pos rfl]
   have hkj:k<j:=(hw k o GF hd).1 (.inl rfl)
   have e1:(st j).1 t=(st (k+1)).1 t:=by
    refine T.SL hkj hj fun i oi hi1 uU hoi hdi => ?_
    have WD:ops.toList[i]? = some oi:=by simpa using hoi
    have hS:=(hw i oi WD hdi).2 uU
    have Wp:i≠k:=by omega
    have:=(A.ah (Ia WD) (A.dr.Re t (List.mem_append_left _ (by rw[hd];simp)) i oi WD hdi)).1 (hS.resolve_left Wp)
    omega
   rw[e1,he,hd]
   show RV m' (if t=t then v else _) rv
   rw[if_pos rfl]
   exact hv
  ·rw[if_neg htd]
   refine(I.tm t j hj fun i oi hi hdi => ?_).mono hm
   have gD:i≠k:=fun e=>by subst e;rw[GF] at hi;cases hi;rw[hd] at hdi;cases hdi;exact htd rfl
   rw[←hw i oi hi hdi]
   simp[gD]
theorem wR.aiA (I:wR E n ops ps lo L0 st m0 w0 ds S m c a w) (A:At P E n ops wY ps M S k o p pi) (hr:∀e∈o.after.toList,Region.binds .any e=true→S e.on) :
  ∀i oi,ops.toList[i]? = some oi→(i=k∨S i)→∀e∈oi.after.toList,Region.binds .any e=true→(e.on=k∨S e.on):=by
 intro i oi hi hS e he hb
 rcases hS with rfl | hS
 ·have:ops.toList[i]? = some o:=by simpa using A.eo
  rw[this] at hi
  cases hi
  exact .inr (hr e he hb)
 ·exact .inr (I.back i oi hi hS e he hb)
theorem IW (T:Text P E n ops wY ps M call lo st) {i j:Nat} {x:Operand} (Qo:i≤j) (hj:j≤ops.size) (h:Gx ops.toList i j x=true):ev (st j).1 x=ev (st i).1 x:=by
 cases x with
 |
  tmp t =>
  refine T.SL Qo hj fun q oq h1 h2 hoq hd => ?_
  have jN:=aKz.1 h oq (by
   have aC5:ops.toList[q]? = some oq:=by simpa using hoq
   rw[List.mem_iff_getElem?]
   refine⟨q-i,?_⟩
   rw[List.getElem?_drop,List.getElem?_take,show i+(q-i)=q by omega,if_pos h2,aC5])
  simp[hd] at jN
 | const v=>rfl
 | global g=>rfl
 | func f=>rfl
theorem wR.look (T:Text P E n ops wY ps M call lo st) (I:wR E n ops ps lo L0 st m0 w0 ds S m c a w) (A:At P E n ops wY ps M S k o p pi) (Ef:∀b,(st 0).2.length≤b→b<(st ops.size).2.length→m0 b=none)
  (mM:gZ E p = .pure∨gZ E p = .look) {v:Value} (hv:BI call lo pi (st k).1 (st k).2=some (v,(st (k+1)).2)):BI call lo pi (st k).1 (st c).2=some (v,(st c).2):=by
 rcases xQ hv with⟨hw,rfl,_⟩ | ⟨hw,TL,hp | ⟨f,args,hp,_⟩⟩
 ·unfold BI
  rw[hw]
 ·unfold BI
  rw[hw]
  simp only[TL,if_true]
  have key:pop lo pi.op (st k).1 (st c).2=some (.val v (st c).2):=by
   rw[A.ok.op] at hp ⊢
   rcases mM with mM | mM
   ·have hlp:yB p=true:=by
     cases p<;>first | rfl | (cases mM;done) | skip
     case sub s x l hh mx=>cases mx<;>cases mM
     case call f as=>simp only[gZ] at mM;split at mM<;>cases mM
    rw[Bv hlp] at hp ⊢
    rw[(Ff hp).1]
    rfl
   ·refine(UR hp mM fun x hx b hb bF => ?_).2
    rcases aKo c k with hck | hck
    ·obtain⟨hcS,pc,hpc,Sp⟩:=I.atc (Nat.lt_trans hck A.lt)
     have NM:b<(st c).2.length:=by
      rcases aKo b (st c).2.length with h | h
      ·exact h
      ·exfalso
       obtain⟨l,hl⟩:=agG (A.operand I (acT A.ok.acE hx)) hb
       have h0:=T.len (i:=0) (j:=c) (aKP _) I.QM
       have h1:=T.len (i:=k) (j:=ops.size) (aK2 A.lt) (aKl _)
       rcases I.dom b l hl with h2 | ⟨i,hiS,bX,hi1,uU⟩
       ·exact h2 (Ef b (by omega) (by omega))
       ·rcases aK1 i c with h3 | h3 | h3
        ·have:=T.len (i:=i+1) (j:=c) h3 I.QM
         omega
        ·subst h3;exact hcS hiS
        ·obtain⟨oi,qi,pii,_,hqi,_⟩:=T.at bX
         have:=I.late T h3 bX hiS hqi
         rw[T.Y8 bX hqi this] at uU
         omega
     refine(T.aiG (aK2 hck) (aK2 A.lt) b NM fun j hj1 GU q qi hq hqi hqw avC => ?_).symm
     obtain⟨pi',aB6,lD⟩:=At.pair T GU A.lt hq A.ep
     rw[A.epi] at aB6
     cases aB6
     unfold G2 at lD
     rw[hqw,mM] at lD
     rcases lD with h | ⟨xa,xb,ha,xD,hun,Ph⟩
     ·exfalso
      rw[Bu GU] at h
      have hjS:=A.anc j h
      rcases aKo c j with h3 | h3
      ·rcases I.late T h3 (Nat.lt_trans GU A.lt) hjS hq with h4 | h4<;>(rw[hqw] at h4;cases h4)
      ·have:j=c:=by omega
       subst this;exact hcS hjS
     ·rw[hx] at xD
      cases xD
      refine⟨xa,ha,fun e => ?_⟩
      have hk:=aKz.1 TL _ Ph
      unfold CF at hk
      rw[IW T (aK2 GU) (aK2 A.lt) hun,e,hb] at hk
      simp at hk
    ·refine T.aiG hck I.QM b bF fun j hj1 GU q qi hq hqi hqw avC => ?_
     have WM:k<j:=by
      rcases aKo k j with h | h
      ·exact h
      ·have:j=k:=by omega
       subst this
       rw[A.ep] at hq
       cases hq
       rw[hqw] at mM
       cases mM
     have EY:j<ops.size:=aKn GU I.QM
     obtain⟨oj,q',qi',hoj,Ob,ajA,aG9,_,vj,hvj,_⟩:=T.at EY
     rw[hq] at Ob
     cases Ob
     rw[hqi] at ajA
     cases ajA
     obtain⟨qi',ajA,lD⟩:=At.pair T WM EY A.ep hq
     rw[hqi] at ajA
     cases ajA
     unfold G2 at lD
     rw[hqw,mM] at lD
     rcases lD with h | ⟨xa,xb,ha,xD,hun,Ph⟩
     ·exfalso
      rw[Bu WM] at h
      exact A.desc j EY (I.before j q GU hq hqw) h
     ·rw[hx] at ha
      cases ha
      refine⟨xb,xD,fun e => ?_⟩
      have aDe:qi.cf.all (CF (st j).1)=true:=by
       rcases xQ hvj with⟨h,_⟩ | ⟨_,h,_⟩
       ·rw[avC] at h;cases h
       ·exact h
      have hk:=aKz.1 aDe _ Ph
      unfold CF at hk
      rw[IW T (aK2 WM) (aK2 EY) hun,e,hb] at hk
      simp at hk
  rw[key]
 ·exfalso
  rw[A.ok.op] at hp
  rcases vZ hp with⟨g,as,rfl⟩ | ⟨g,as,rfl⟩
  ·simp only[gZ] at mM
   split at mM<;>rcases mM with h | h<;>cases h
  ·rcases mM with h | h<;>cases h
end
end Go.PM
namespace Go.PM
section
variable {P:Program} {E:CS} {n:Nat} {ops:Array Oper} {wY:List PI} {ps:List qF} {M:List Nat} {call:iG} {lo L0:Nat} {st:Nat→Env×aJ}
 {m0:dL} {w0:World} {ds:List Deferred}
theorem JW {H:aJ} {b:Nat} (h:H.length≤b):¬Live H b:=fun hl=>by have:=hl.lt;omega
theorem alB {S:Nat→Prop} {m:dL} {c:Nat} {a:Act} {w:World} {k:Nat} {o:Oper} (T:Text P E n ops wY ps M call lo st) (qO:AG P L0 call) (dQ:L0≤lo) (Cf:L0≤(st 0).2.length)
  (Ef:∀b,(st 0).2.length≤b→b<(st ops.size).2.length→m0 b=none) (I:wR E n ops ps lo L0 st m0 w0 ds S m c a w) (ho:ops[k]? = some o) (hkS:¬S k)
  (hr:∀e∈o.after.toList,Region.binds .any e=true→S e.on) {K:Act→World→Prop} {Q:Exit→Act→World→Prop}
  (hK:∀m' c' a' w',wR E n ops ps lo L0 st m0 w0 ds (fun i=>i=k∨S i) m' c' a' w'→K a' w'):wpOp P ops Q k K a w:=by
 have bF:k<ops.size:=(aKu.1 ho).1
 obtain⟨o',p,pi,ho',hp,hpi,GF,hdr,v,hv,he⟩:=T.at bF
 rw[ho] at ho'
 cases ho'
 have ho2:ops.toList[k]? = some o:=by simpa using ho
 have A:At P E n ops wY ps M S k o p pi:=⟨bF,ho,hp,hpi,GF,hdr,hkS,fun i hi=>T.anc I.back ho2 hr hi,fun i hi hS hb=>by
  have hio:ops.toList[i]? = some ops[i]:=by simp[hi]
  exact hkS (T.anc I.back hio (I.back i _ hio hS) hb)⟩
 have X2:=A.reads I
 have auH:=T.len (i:=0) (j:=c) (aKP _) I.QM
 have aBs:=T.len (i:=c) (j:=ops.size) I.QM (aKl _)
 have aB9:=T.len (i:=0) (j:=k) (aKP _) (aK2 bF)
 have aD4:=T.len (i:=k+1) (j:=ops.size) bF (aKl _)
 have aEF:=T.aAV bF
 have hfk:∀b,(st k).2.length≤b→b<(st (k+1)).2.length→m b=none:=by
  intro b h1 h2
  cases hm:m b with
  | none=>rfl
  |
   some l =>
   exfalso
   rcases I.dom b l hm with h3 | ⟨i,hiS,bX,hi1,uU⟩
   ·exact h3 (Ef b (by omega) (by omega))
   ·rcases aK1 i k with h3 | h3 | h3
    ·have:=T.len (i:=i+1) (j:=k) h3 (aK2 bF)
     omega
    ·subst h3;exact hkS hiS
    ·have:=T.len (i:=k+1) (j:=i) h3 (aK2 bX)
     omega
 have VH:(gZ E p = .pure∨gZ E p = .look)→wpOp P ops Q k K a w:=by
  intro mM
  have hq:pi.quiet=false:=by
   rw[hdr.quiet]
   rcases mM with h | h<;>rw[h]
  have hw:gZ E p ≠ .write:=by rcases mM with h | h<;>(rw[h];exact fun h=>by cases h)
  refine Sn ho GF (fun h=>by rw[hq] at h;cases h) (I.look T A Ef mM hv) X2 I.rel dQ (aKm Cf auH) (fun b h1 h2=>by omega) qO fun m' rv w' X1 hR hT => ?_
  rw[hq] at hT
  simp only[aKX,if_false] at hT
  have hmm:m'=m:=by
   funext b
   cases hm:m b with
   | some l=>exact hT.ext b l hm
   |
    none =>
    cases hm':m' b with
    | none=>rfl
    | some l=>have:=(hT.new b l hm' hm).1;omega
  subst hmm
  refine hK m' c _ w' ⟨by rw[I3];exact I.I4,by rw[Jz];exact I.defs,I.aiA A hr,I.Re T A (fun _ _ h=>h) X1 he,I.QM,fun i q h1 h2 h3 => .inr (I.before i q h1 h2 h3),?_,hR,?_,?_⟩
  ·intro h
   obtain⟨h1,q,h2,h3⟩:=I.atc h
   refine⟨fun hS=>hS.elim (fun e => ?_) h1,q,h2,h3⟩
   subst e
   rw[hp] at h2
   cases h2
   exact hw h3
  ·exact Trans.trans (fun b h1 h2=>Ef b h1 (by omega)) (T.aiX (aKP _) I.QM) (Ext.refl _ _) I.tr hT
  ·intro b l hb
   exact(I.dom b l hb).imp id fun⟨i,h1,h2⟩=>⟨i,.inr h1,h2⟩
 cases mM:gZ E p with
 |
  write =>
  have hkc:k=c:=by
   rcases aK1 k c with h | h | h
   ·exact absurd (I.before k p h hp mM) hkS
   ·exact h
   ·exfalso
    obtain⟨hcS,pc,hpc,Sp⟩:=I.atc (by omega)
    obtain⟨qi,_,lD⟩:=At.pair T h bF hpc hp
    unfold G2 at lD
    rw[Sp,mM] at lD
    simp only at lD
    rw[Bu h] at lD
    exact hcS (A.anc c lD)
  subst hkc
  refine Sn ho GF (fun hq=>by rw[hdr.quiet,mM] at hq;cases hq) hv X2 I.rel dQ (aKm Cf auH) hfk qO fun m' rv w' X1 hR hT => ?_
  have hq:pi.quiet=false:=by rw[hdr.quiet,mM]
  rw[hq] at hT
  simp only[aKX,if_false] at hT
  obtain⟨c',hc1,hc2,hc3,hc4⟩:=IE (fun i=>∃q,ps[i]? = some q∧gZ E q = .write) _ (k+1) ops.size rfl bF
  have Ry:∀b,b<(st (k+1)).2.length→(st c').2[b]? = (st (k+1)).2[b]? := T.same hc1 hc2 fun i h1 h2 q hq hw=>hc3 i h1 h2 ⟨q,hq,hw⟩
  have aER:=T.len hc1 hc2
  have aCa:=T.len (i:=c') (j:=ops.size) hc2 (aKl _)
  have aCg:∀b l,m' b=some l→m0 b≠none∨∃i,(i=k∨S i)∧i<ops.size∧(st i).2.length≤b∧b<(st (i+1)).2.length:=by
   intro b l hb
   cases hm:m b with
   | some l'=>exact(I.dom b l' hm).imp id fun⟨i,h1,h2⟩=>⟨i,.inr h1,h2⟩
   | none=>exact .inr ⟨k,.inl rfl,bF,(hT.new b l hb hm).1⟩
  have ayW:∀b,(st (k+1)).2.length≤b→b<(st c').2.length→m' b=none:=by
   intro b h1 h2
   cases hm:m' b with
   | none=>rfl
   |
    some l =>
    exfalso
    rcases aCg b l hm with h3 | ⟨i,hiS,bX,hi1,uU⟩
    ·exact h3 (Ef b (by omega) (by omega))
    ·rcases aK1 i k with h3 | h3 | h3
     ·have:=T.len (i:=i+1) (j:=k) h3 (aK2 bF)
      omega
     ·subst h3;omega
     ·obtain⟨oi,qi,pii,_,hqi,_⟩:=T.at bX
      have:=I.late T h3 bX (hiS.resolve_left (by omega)) hqi
      rw[T.Y8 bX hqi this] at uU
      omega
  have hTT:Trans lo m0 (st 0).2 w0 m' (st (k+1)).2 w':=Trans.trans (fun b h1 h2=>Ef b h1 (by omega)) (T.aiX (aKP _) (aK2 bF)) (T.aiX (Nat.le_succ _) bF) I.tr hT
  refine hK m' c' _ w' ⟨by rw[I3];exact I.I4,by rw[Jz];exact I.defs,I.aiA A hr,I.Re T A hT.ext X1 he,hc2,?_,?_,hR.grow Ry ayW,?_,aCg⟩
  ·intro i q hi hq hw
   rcases aK1 i k with h | h | h
   ·exact .inr (I.before i q h hq hw)
   ·exact .inl h
   ·exact absurd ⟨q,hq,hw⟩ (hc3 i h hi)
  ·intro h
   obtain⟨q,hq,hw⟩:=hc4 h
   refine⟨fun hS => ?_,q,hq,hw⟩
   rcases hS with hS | hS
   ·omega
   ·rcases I.late T (by omega) h hS hq with h4 | h4<;>(rw[hw] at h4;cases h4)
  ·refine⟨hTT.ext,fun b l hb hn => ?_,hTT.size,hTT.dB,hTT.same⟩
   obtain⟨⟨h1,h2⟩,h3⟩:=hTT.new b l hb hn
   refine⟨⟨h1,by omega⟩,?_⟩
   rcases h3 with h3 | h3 | h3
   ·exact .inl h3
   ·exact .inr (.inl fun hl=>h3 ((kK (Ry b h2)).1 hl))
   ·exact .inr (.inr h3)
 |
  quiet =>
  have hkc:k<c:=by
   rcases aKo k c with h | h
   ·exact h
   ·exfalso
    rcases aKo c k with h' | h'
    ·obtain⟨hcS,pc,hpc,Sp⟩:=I.atc (by omega)
     obtain⟨qi,_,lD⟩:=At.pair T h' bF hpc hp
     unfold G2 at lD
     rw[Sp,mM] at lD
     simp only at lD
     rw[Bu h'] at lD
     exact hcS (A.anc c lD)
    ·have:k=c:=by omega
     subst this
     obtain⟨_,pc,hpc,Sp⟩:=I.atc bF
     rw[hp] at hpc
     cases hpc
     rw[mM] at Sp
     cases Sp
  have afA:∀i,k<i→i<c→∀q,ps[i]? = some q→gZ E q ≠ .write:=by
   intro i h1 h2 q hq hw
   have bX:i<ops.size:=aKn h2 I.QM
   obtain⟨qi,_,lD⟩:=At.pair T h1 bX hp hq
   unfold G2 at lD
   rw[mM,hw] at lD
   simp only at lD
   rw[Bu h1] at lD
   exact A.desc i bX (I.before i q h2 hq hw) lD
  have Kx:∀b,b<(st (k+1)).2.length→(st c).2[b]? = (st (k+1)).2[b]? := T.same hkc I.QM fun i h1 h2 q hq=>afA i h1 h2 q hq
  have hs0:∀b,b<(st k).2.length→(st c).2[b]? = (st k).2[b]? := T.same (aK2 hkc) I.QM fun i h1 h2 q hq=>by
   rcases aKo k i with h | h
   ·exact afA i h h2 q hq
   ·have:i=k:=by omega
    subst this
    rw[hp] at hq
    cases hq
    rw[mM]
    exact fun h=>by cases h
  have aFA:=T.len (i:=k+1) (j:=c) hkc I.QM
  refine Sn ho GF (fun _=>mM) hv X2 (I.rel.restrict hs0) dQ (aKm Cf aB9) hfk qO fun m' rv w' X1 hR hT => ?_
  have hq:pi.quiet=true:=by rw[hdr.quiet,mM]
  rw[hq] at hT
  simp only[if_true] at hT
  have AZ:∀rb,rb<w.heap.size→w'.heap[rb]? = w.heap[rb]? := fun rb AX=>hT.dB rb AX fun b l hb _ hl=>absurd hl (JW hb)
  have pU:∀b l,m' b=some l→m b=none→((st k).2.length≤b∧b<(st (k+1)).2.length)∧(w.heap.size≤l.rb∨¬Live (st (k+1)).2 b):=by
   intro b l h1 h2
   obtain⟨h3,h4⟩:=hT.new b l h1 h2
   refine⟨h3,?_⟩
   rcases h4 with h4 | h4 | ⟨b0,l0,g1,_,g3,_⟩
   ·exact .inl h4
   ·exact .inr h4
   ·exact absurd g3 (JW g1)
  have aAX:∀b l,m b=some l→l.rb<w.heap.size:=by
   intro b l hb
   obtain⟨arr,e,fz,h1,_⟩:=I.rel.valid b l hb
   exact(aKu.1 h1).1
  have YM:∀rb j,rb<w.heap.size→w'.cell? ⟨rb,j,none⟩=w.cell? ⟨rb,j,none⟩:=by
   intro rb j AX
   unfold World.cell?
   simp only[AZ rb AX]
  have DM:∀b l,m' b=some l→(st (k+1)).2.length≤b→m b=some l:=by
   intro b l hb h
   cases hm:m b with
   | some l'=>have:=hT.ext b l' hm;rw[hb] at this;exact this.symm
   | none=>have:=(pU b l hb hm).1.2;omega
  refine hK m' c _ w' ⟨by rw[I3];exact I.I4,by rw[Jz];exact I.defs,I.aiA A hr,I.Re T A hT.ext X1 he,I.QM,fun i q h1 h2 h3 => .inr (I.before i q h1 h2 h3),?_,⟨hR.valid,?_,?_,?_⟩,?_,?_⟩
  ·intro h
   obtain⟨h1,q,h2,h3⟩:=I.atc h
   exact⟨fun hS=>hS.elim (fun e=>by omega) h1,q,h2,h3⟩
  ·intro b l cs e pp hm hb
   rcases aKo b (st (k+1)).2.length with h | h
   ·exact hR.row b l cs e pp hm (by rw[←Kx b h];exact hb)
   ·have hmo:=DM b l hm h
    obtain⟨h1,h2,h3,h4⟩:=I.rel.row b l cs e pp hmo hb
    refine⟨h1,h2,h3,fun i hi => ?_⟩
    obtain⟨rv',g1,g2,g3⟩:=h4 i hi
    exact⟨rv',by rw[YM _ _ (aAX b l hmo)];exact g1,g2.mono hT.ext,g3⟩
  ·intro b1 b2 l1 l2 EU h1 h2 Dw JM AX
   have fresh:∀b b' l l',m' b=some l→m b=none→m b'=some l'→Live (st c).2 b→l.rb=l'.rb→False:=by
    intro b b' l l' g1 g2 g3 g4 g5
    obtain⟨⟨_,g6⟩,g7⟩:=pU b l g1 g2
    rcases g7 with g7 | g7
    ·have:=aAX b' l' g3;omega
    ·exact g7 ((kK (Kx b g6)).1 g4)
   cases Qe:m b1 with
   |
    some l1' =>
    cases Yz:m b2 with
    |
     some l2' =>
     have e1:l1'=l1:=by have:=hT.ext b1 l1' Qe;rw[h1] at this;injection this with this;exact this.symm
     have e2:l2'=l2:=by have:=hT.ext b2 l2' Yz;rw[h2] at this;injection this with this;exact this.symm
     subst e1 e2
     exact I.rel.inj b1 b2 _ _ EU Qe Yz Dw JM AX
    |
     none =>
     have e1:l1'=l1:=by have:=hT.ext b1 l1' Qe;rw[h1] at this;injection this with this;exact this.symm
     subst e1
     exact(fresh b2 b1 _ _ h2 Yz Qe JM AX.symm).elim
   |
    none =>
    cases Yz:m b2 with
    |
     some l2' =>
     have e2:l2'=l2:=by have:=hT.ext b2 l2' Yz;rw[h2] at this;injection this with this;exact this.symm
     subst e2
     exact(fresh b1 b2 _ _ h1 Qe Yz Dw AX).elim
    |
     none =>
     have g1:=(pU b1 l1 h1 Qe).1.2
     have g2:=(pU b2 l2 h2 Yz).1.2
     exact hR.inj b1 b2 l1 l2 EU h1 h2 ((kK (Kx b1 g1)).1 Dw) ((kK (Kx b2 g2)).1 JM) AX
  ·intro x hx
   refine⟨(hR.FY x hx).1,fun b l hb hm hl => ?_⟩
   obtain⟨⟨e0,fz0,q1⟩,q2⟩:=I.rel.FY x hx
   cases Qe:m b with
   |
    some l' =>
    have e1:l'=l:=by have:=hT.ext b l' Qe;rw[hm] at this;injection this with this;exact this.symm
    subst e1
    exact q2 b l' hb Qe hl
   |
    none =>
    obtain⟨⟨_,g6⟩,g7⟩:=pU b l hm Qe
    rcases g7 with g7 | g7
    ·have:=(aKu.1 q1).1
     omega
    ·exact(g7 ((kK (Kx b g6)).1 hl)).elim
  ·refine⟨fun b l hb=>hT.ext b l (I.tr.ext b l hb),fun b l hb hn => ?_,aKm I.tr.size hT.size,fun rb AX hk => ?_,hT.same.1.trans I.tr.same.1,hT.same.2.1.trans I.tr.same.2.1,hT.same.2.2.trans I.tr.same.2.2⟩
   ·cases hm:m b with
    |
     some l' =>
     have e1:l'=l:=by have:=hT.ext b l' hm;rw[hb] at this;injection this with this;exact this.symm
     subst e1
     exact I.tr.new b l' hm hn
    |
     none =>
     obtain⟨⟨g1,g2⟩,g3⟩:=pU b l hb hm
     refine⟨⟨by omega,by omega⟩,?_⟩
     rcases g3 with g3 | g3
     ·exact .inl (aKm I.tr.size g3)
     ·exact .inr (.inl fun hl=>g3 ((kK (Kx b g2)).1 hl))
   ·rw[AZ rb (aKn AX I.tr.size),I.tr.dB rb AX hk]
  ·intro b l hb
   cases hm:m b with
   | some l'=>exact(I.dom b l' hm).imp id fun⟨i,h1,h2⟩=>⟨i,.inr h1,h2⟩
   | none=>exact .inr ⟨k,.inl rfl,bF,(pU b l hb hm).1⟩
 | pure=>exact VH (.inl mM)
 | look=>exact VH (.inr mM)
end
end Go.PM
namespace Go.PM
section
variable {P:Program} {E:CS} {n:Nat} {call:iG} {lo L0:Nat}
theorem Trans.fresh {m m':dL} {H H1 H2:aJ} {w w':World} (h:Trans lo m H w m' H1 w') (h1:H.length≤H1.length) (hf:∀b,H.length≤b→b<H2.length→m b=none):∀b,H1.length≤b→b<H2.length→m' b=none:=by
 intro b EU hb2
 cases hm:m' b with
 | none=>rfl
 |
  some l =>
  exfalso
  have hn:=hf b (by omega) hb2
  have:=(h.new b l hm hn).1
  omega
structure Kh (n L0:Nat) (m:dL) (ρ:Env) (H:aJ) (a:Act) (w:World):Prop where
 I4:a.tmps.size=n
 defs:a.defers=[]
 env:∀t,RV m (ρ t) (a.tmps.getD t undef)
 rel:Rel m L0 H w
theorem RA {p q:Nat→Bool}:∀ {l:List Nat} {i:Nat},(∀x∈l,q x=true→p x=true)→i∈l→p i=true→q i=false→l.countP q<l.countP p
 |
  x::l,i,h,hi,hp,hq=>by
  rw[List.countP_cons,List.countP_cons]
  have hle:l.countP q≤l.countP p:=List.countP_mono_left fun x hx=>h x (aKU _ hx)
  rcases List.mem_cons.1 hi with rfl | hi
  ·rw[if_neg (by simp[hq]),if_pos hp];omega
  ·have:=RA (fun x hx=>h x (aKU _ hx)) hi hp hq
   have:(if q x=true then 1 else 0)≤(if p x=true then 1 else 0):=by
    by_cases hqx:q x=true
    ·rw[if_pos hqx,if_pos (h x aKV hqx)];omega
    ·rw[if_neg hqx];omega
   omega
theorem PE {listed:Array Bool} {k i:Nat} (hk:k<listed.size):(listed.setIfInBounds k true).getD i false=true↔(i=k∨listed.getD i false=true):=by
 rcases aKo i listed.size with h | h
 ·by_cases e:i=k
  ·subst e;simp[h]
  ·simp[h,e,Ne.symm e]
 ·have:i≠k:=by omega
  simp[h,this]
theorem arK {ops:Array Oper} {wY:List PI} {ps:List qF} {M:List Nat} {st:Nat→Env×aJ} {m0:dL} {w0:World} (T:Text P E n ops wY ps M call lo st) (qO:AG P L0 call) (dQ:L0≤lo) (Cf:L0≤(st 0).2.length)
  (Ef:∀b,(st 0).2.length≤b→b<(st ops.size).2.length→m0 b=none) {Q:Exit→Act→World→Prop}
  (hQ:∀m' a' w',Kh n L0 m' (st ops.size).1 (st ops.size).2 a' w'→Trans lo m0 (st 0).2 w0 m' (st ops.size).2 w'→Q .normal a' w') :
  ∀(fuel:Nat) (listed:Array Bool) (m:dL) (c:Nat) (a:Act) (w:World),listed.size=ops.size→((aKh ops.size).countP fun i => !listed.getD i false)≤fuel →
  wR E n ops ps lo L0 st m0 w0 [] (fun i=>listed.getD i false=true) m c a w→wpAny P .any ops Q fuel listed a w:=by
 have fin:∀(listed:Array Bool) (m:dL) (c:Nat) (a:Act) (w:World),listed.size=ops.size→(Region.ready .any ops listed=[])→wR E n ops ps lo L0 st m0 w0 [] (fun i=>listed.getD i false=true) m c a w→Q .normal a w:=by
  intro listed m c a w hs hr I
  have all:∀i,i<ops.size→listed.getD i false=true:=by
   intro i
   induction i using Nat.strongRecOn with
   |
    _ i ih =>
    intro hi
    cases hl:listed.getD i false with
    | true=>rfl
    |
     false =>
     exfalso
     obtain⟨o,p,pi,ho,_,_,_,hdr,_⟩:=T.at hi
     have:i∈Region.ready .any ops listed:=by
      rw[mem_ready]
      refine⟨?_,o,ho,fun e he hb => ?_⟩
      ·have Yf:i<listed.size:=by omega
       simpa[Yf] using hl
      ·have:=hdr.back e (by simpa using he) hb
       exact ih e.on this (by omega)
     rw[hr] at this
     cases this
  have hcN:c=ops.size:=by
   rcases aKo c ops.size with h | h
   ·exact absurd (all c h) (I.atc h).1
   ·have:=I.QM;omega
  subst hcN
  exact hQ m a w ⟨I.I4,I.defs,fun t=>I.tm t ops.size (aKl _) fun i o hi _=>⟨fun _=>Ia hi,fun h=>all i h⟩,I.rel⟩ I.tr
 intro fuel
 induction fuel with
 |
  zero =>
  intro listed m c a w hs hc I
  have hr:Region.ready .any ops listed=[]:=by
   rw[List.eq_nil_iff_forall_not_mem]
   intro i hi
   have qM:=mem_ready.1 hi
   obtain⟨h1,o,ho,_⟩:=qM
   have bF:i<ops.size:=(aKu.1 ho).1
   have h0:((aKh ops.size).countP fun i => !listed.getD i false)=0:=by omega
   rw[List.countP_eq_zero] at h0
   have:=h0 i (aKW.2 bF)
   have Yf:i<listed.size:=by omega
   simp[Yf] at this h1
   rw[h1] at this
   cases this
  exact⟨hr,fin listed m c a w hs hr I⟩
 |
  succ fuel ih =>
  intro listed m c a w hs hc I
  refine⟨fun hr=>fin listed m c a w hs hr I,fun k hk => ?_⟩
  obtain⟨h1,o,ho,hb⟩:=mem_ready.1 hk
  have bF:k<ops.size:=(aKu.1 ho).1
  have hkl:k<listed.size:=by omega
  have hkf:listed.getD k false=false:=by simpa[hkl] using h1
  refine alB T qO dQ Cf Ef I ho (by rw[hkf];exact fun h=>by cases h) (fun e he hbd=>hb e (by simpa using he) hbd) fun m' c' a' w' I'=>ih _ m' c' a' w' (by simpa using hs) ?_ ?_
  ·have:((aKh ops.size).countP fun i => !(listed.setIfInBounds k true).getD i false)<((aKh ops.size).countP fun i => !listed.getD i false):=by
    refine RA (i:=k) (fun x _ hx => ?_) (aKW.2 bF) (by rw[hkf];rfl) ?_
    ·cases hlx:listed.getD x false with
     | false=>rfl
     |
      true =>
      have:=(PE (i:=x) hkl).2 (.inr hlx)
      rw[this] at hx
      cases hx
    ·rw[(PE hkl).2 (.inl rfl)];rfl
   omega
  ·have e:(fun i=>(listed.setIfInBounds k true).getD i false=true)=fun i=>i=k∨listed.getD i false=true:=by
    funext i
    exact propext (PE hkl)
   rw[e]
   exact I'
theorem Rel.drew {m:dL} {H:aJ} {w w':World} (h:Rel m L0 H w) (hw:w'.heap=w.heap):Rel m L0 H w':=by
 have hc:∀x,w'.cell? x=w.cell? x:=fun x=>by unfold World.cell?;rw[hw]
 refine⟨fun b l hb=>by rw[hw];exact h.valid b l hb,fun b l cs e p hm hb => ?_,h.inj,fun x hx=>⟨by rw[hw];exact(h.FY x hx).1,(h.FY x hx).2⟩⟩
 obtain⟨h1,h2,h3,h4⟩:=h.row b l cs e p hm hb
 refine⟨h1,h2,h3,fun i hi => ?_⟩
 rw[hc]
 exact h4 i hi
theorem Xi {id:Nat} {ops:Array Oper} {draw:Bool} {wY:List PI} (E3:P.follows .mixedOrders=true) (qO:AG P L0 call) (uO:vD call) (hp:Bo P E n ops draw=some wY) {ρ aP:Env} {H H':aJ}
  (hv:jC call lo wY ρ H=some (aP,H')) {m:dL} {a:Act} {w:World} (h:Kh n L0 m ρ H a w) (dQ:L0≤lo) (hlen:L0≤H.length) (hf:∀b,H.length≤b→b<H'.length→m b=none) {Q:Exit→Act→World→Prop}
  (hQ:∀m' a' w',Kh n L0 m' aP H' a' w'→Trans lo m H w m' H' w'→Q .normal a' w'):(Code.region id ops draw).wp P Q a w:=by
 obtain⟨ps,M,GF⟩:=MJ hp
 obtain⟨st,hs0,hsn,xA⟩:=JG hv
 have hN:wY.length=ops.size:=by rw[GF.aDS];simp
 rw[hN] at hsn
 cases draw with
 |
  true =>
  have T:Text P E n ops wY ps M call lo st:=⟨GF,uO,xA⟩
  apply wp_region_any E3
  have e0:(st 0).1=ρ:=by rw[hs0]
  have e1:(st 0).2=H:=by rw[hs0]
  have e2:(st ops.size).1=aP:=by rw[hsn]
  have e3:(st ops.size).2=H':=by rw[hsn]
  obtain⟨c,hc1,hc2,hc3,hc4⟩:=IE (fun i=>∃q,ps[i]? = some q∧gZ E q = .write) _ 0 ops.size rfl (aKP _)
  have Ry:=T.same hc1 hc2 fun i h1 h2 q hq hw=>hc3 i h1 h2 ⟨q,hq,hw⟩
  have aBs:=T.len hc1 hc2
  have aCa:=T.len (i:=c) (j:=ops.size) hc2 (aKl _)
  have WL:=h.rel.grow (by rw[←e1];exact Ry) (fun b h1 h2=>hf b h1 (by rw[←e3];omega))
  have alZ:∀i,(Array.replicate ops.size false).getD i false=true→False:=by
   intro i hi
   rcases aKo i ops.size with h | h<;>simp[h] at hi
  refine arK (m0:=m) (w0:=w) T qO dQ (by rw[e1];exact hlen) (by rw[e1,e3];exact hf) (by rw[e1,e2,e3];exact hQ) ops.size _ m c a _ (by simp) (aKm List.countP_le_length (by simp)) ?_
  refine⟨h.I4,h.defs,fun i o _ hi=>(alZ i hi).elim,fun t j hj hw => ?_,hc2,fun i q hi hq hw=>absurd ⟨q,hq,hw⟩ (hc3 i (aKP _) hi),fun hc=>⟨fun h=>alZ _ h,hc4 hc⟩,WL.drew rfl,?_,fun b l hb => .inl (by rw[hb];exact fun h=>by cases h)⟩
  ·have e:(st j).1 t=ρ t:=by
    rw[←e0]
    refine T.SL (aKP _) hj fun i oi _ uU hoi hd => ?_
    have WD:ops.toList[i]? = some oi:=by simpa using hoi
    exact(alZ i ((hw i oi WD hd).2 uU)).elim
   rw[e]
   exact h.env t
  ·rw[e1]
   refine⟨fun _ _ h=>h,fun b l hb hn=>(by rw[hb] at hn;cases hn),aKl _,fun _ _ _=>rfl,rfl,rfl,rfl⟩
 |
  false =>
  apply wp_region
  have key:∀d i,ops.size-i=d→i≤ops.size→∀m1 a1 w1,Kh n L0 m1 (st i).1 (st i).2 a1 w1→L0≤(st i).2.length→(∀b,(st i).2.length≤b→b<H'.length→m1 b=none) →
    (∀m' a' w',Kh n L0 m' aP H' a' w'→Trans lo m1 (st i).2 w1 m' H' w'→Q .normal a' w')→wpOps P ops Q ((aKh ops.size).drop i) a1 w1:=by
   intro d
   induction d with
   |
    zero =>
    intro i hd hi m1 a1 w1 h1 _ _ hQ1
    have:i=ops.size:=by omega
    subst this
    rw[List.drop_eq_nil_of_le (by simp)]
    rw[hsn] at h1 hQ1
    exact hQ1 m1 a1 w1 h1 (Trans.refl _ _ _ _)
   |
    succ d ih =>
    intro i hd hi m1 a1 w1 h1 Dw hf1 hQ1
    have bF:i<ops.size:=by omega
    rw[List.drop_eq_getElem_cons (by simpa using bF),wpOps_cons]
    have ho:ops.toList[i]? = some ops[i]:=by simp[bF]
    obtain⟨p,pi,hp1,hp2,awO,_,hdr⟩:=GF.each i _ ho
    have Cd:=xA i pi hp2
    obtain⟨v,hv1,hv2⟩:=Bt Cd
    have hq:pi.quiet=false:=(hdr rfl).1
    have hE1:=Kl uO Cd
    have hE2:Ext lo (st (i+1)).2 H':=by
     have:∀d j,ops.size-j=d→j≤ops.size→Ext lo (st j).2 H':=by
      intro d
      induction d with
      | zero =>
        intro j hd hj;have:j=ops.size:=by omega
        subst this;rw[hsn];exact Ext.refl _ _
      |
       succ d ih =>
       intro j hd hj
       have hjl:j<wY.length:=by omega
       exact(Kl uO (xA j wY[j] (aKs hjl))).trans (ih (j+1) (by omega) (by omega))
     exact this _ (i+1) rfl bF
    have GY:(aKh ops.size)[i]'(by simpa using bF)=i:=by simp
    rw[GY]
    refine Sn (by simp[bF]) awO (fun h=>by rw[hq] at h;cases h) hv1 (fun t _=>h1.env t) h1.rel dQ Dw (fun b EU hb2=>hf1 b EU (aKn hb2 hE2.len)) qO fun m' rv w' X1 hR hT => ?_
    rw[hq] at hT
    simp only[aKX,if_false] at hT
    refine ih (i+1) (by omega) bF m' _ w' ⟨by rw[I3];exact h1.I4,by rw[Jz];exact h1.defs,fun t => ?_,hR⟩ (aKm Dw hE1.len) (hT.fresh hE1.len hf1) fun m2 a2 w2 h2 RW=>hQ1 m2 a2 w2 h2 (Trans.trans hf1 hE1 hE2 hT RW)
    rw[hv2,awO.dst]
    cases hd:ops[i].dst with
    | none=>exact(h1.env t).mono hT.ext
    |
     some d =>
     rw[Wf (by rw[h1.I4];exact awO.bound d hd)]
     show RV m' (if t=d then v else (st i).1 t) _
     by_cases e:t=d
     ·rw[if_pos e,if_pos e];exact X1
     ·rw[if_neg e,if_neg e];exact(h1.env t).mono hT.ext
  have:=key ops.size 0 (by omega) (aKP _) m a w (by rw[hs0];exact h) (by rw[hs0];exact hlen) (by rw[hs0];exact hf) (by rw[hs0];exact hQ)
  simpa using this
end
end Go.PM