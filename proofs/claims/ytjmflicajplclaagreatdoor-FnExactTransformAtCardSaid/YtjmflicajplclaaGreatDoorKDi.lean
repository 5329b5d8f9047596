/- Texts of a claim, in one: part 9. -/
import Derived.Test.YtjmflicajplclaaGreatDoorKDh
open And renaming intro → aL1
open Bool renaming false_eq_true → aKX
open Int renaming mul_ediv_cancel_left → aMZ,mul_le_mul_of_nonneg_left → aMW,natAbs_mul → aMX,natAbs_natCast → aMY,natCast_add → aMq,natCast_mul → aMJ
open List renaming append_assoc → aL7,drop_drop → aLl,drop_of_length_le → aMe,drop_zero → aLx,getElem?_drop → aKj,getElem?_eq_getElem → aKs,getElem?_eq_none_iff → aMy,getElem?_eq_some_iff → aKk,getElem?_set_ne → aKK,getElem?_set_self → aKJ,getElem?_take_of_lt → aKI,length_append → aKw,length_drop → aMK,length_set → aMk,length_take → aLU,mem_append → aLh,mem_of_getElem? → aLf,mem_of_mem_drop → aLj,mem_of_mem_take → aLi,replicate → aLb,take_append_drop → aLu,take_append_of_le_length → aMU,take_of_length_le → aLe
open Nat renaming add_mul → aKQ,add_mul_div_left → aML,add_mul_mod_self_left → aMM,add_zero → aMA,div_add_mod → aMV,div_div_eq_div_mul → aMs,div_eq_of_lt → aLS,div_le_self → aMQ,div_mul_le_self → aMS,le_div_iff_mul_le → aMR,le_of_ble_eq_true → aL9,le_of_lt → aK2,le_refl → aKl,le_trans → aKm,lt_of_le_of_lt → aMP,lt_of_lt_of_le → aKn,lt_of_mul_lt_mul_right → aMm,mod_add_div → aMn,mod_eq_of_lt → aLP,mod_lt → aKN,mul_add → aMI,mul_assoc → aMx,mul_comm → aLN,mul_le_mul → aMC,mul_le_mul_left → aMl,mul_le_mul_right → aKM,mul_lt_mul_of_pos_right → aMO,mul_zero → aMz,one_mul → aMT,pow_le_pow_right → aMp,pow_lt_pow_iff_right → aMN,pow_succ → aLM,zero_add → aLT,zero_le → aKP
set_option linter.unusedSimpArgs false
set_option linter.unusedVariables false
namespace Go.PM
theorem SN {H:aA} {b b' g:Nat} {x:fK} (h:b≠b'):aG (H.set b x) b' g=aG H b' g:=by
 unfold aG
 rw[aKK h]
theorem pX {H:aA} {b g e:Nat} {es pJ:List VV} {w w':Bool} (h:aG H b g=some (es,e,w)):aG (H.set b (.row g pJ e w')) b g=some (pJ,e,w'):=by
 have bF:b<H.length:=by
  unfold aG at h
  split at h
  ·rename_i hb
   exact(aKk.1 hb).1
  ·cases h
 unfold aG
 rw[aKJ bF]
 simp
theorem oP {H:aA} {b:Nat} {x y:fK}:(H.set b x).set b y=H.set b y:=by rw[List.set_set]
theorem Ar {H:aA} {b g e:Nat} {es:List VV} {w:Bool} (h:aG H b g=some (es,e,w)):H.set b (.row g es e w)=H:=by
 apply List.ext_getElem?
 intro i
 by_cases hi:b=i
 ·subst hi
  unfold aG at h
  split at h
  ·rename_i hb
   split at h
   ·rename_i hg
    cases h
    rw[aKJ (aKk.1 hb).1,hb,hg]
   ·cases h
  ·cases h
 ·rw[aKK hi]
theorem aiU {H:aA} {b g o i lo d:Nat} {pre jL post:List Nat} (hr:aG H b g=some ((pre++jL++post).map uV,1,true)) (ho:pre.length=o) (hi:i<jL.length) (dQ:lo≤b) :
  bK lo 1 (.ptr b g (o+i) 0) (uV d) H=some (H.set b (.row g ((pre++jL.set i d++post).map uV) 1 true)):=by
 rw[dN (f:=uV) (e:=1) hr (by simp only[aKw];omega) dQ rfl rfl,aaH ho hi]
theorem Xz {H:aA} {lo b g o L c b2 g2 n2 c2 t:Nat} {pre jL post vs Rk:List Nat} {w2:Bool} (hr:aG H b g=some ((pre++jL++post).map uV,1,true)) (hr2:aG H b2 g2=some (Rk.map uV,1,w2)) (hb:b≠b2) (dQ:lo≤b)
  (ho:pre.length=o) (hL:jL.length=L) (aGi:L≤70368744177664) (TE:Rk.take n2=vs) (hn2:n2≤Rk.length) (hle:n2≤L) (adG:∀d∈jL,d<4294967296) (IZ:∀d∈vs,d<4294967296) (ht:t<4294967296) (xB:t*val 4294967296 vs≤val 4294967296 jL+val 4294967296 vs) :
  jA 200 [.ref b g o L c,.ref b2 g2 0 n2 c2,VK .u64 t] lo H fun r H'=>∃uP:List Nat,H'=H.set b (.row g ((pre++uP++post).map uV) 1 true)∧uP.length=L∧(∀d∈uP,d<4294967296) ∧
   ((r=VB false∧val 4294967296 uP+t*val 4294967296 vs=val 4294967296 jL)∨(r=VB true∧val 4294967296 jL<t*val 4294967296 vs∧val 4294967296 uP+t*val 4294967296 vs=val 4294967296 jL+val 4294967296 vs)):=by
 refine jA.walk ⟨true,false⟩ MK (aL9 rfl) ?_
 have G7:vs.length=n2:=by rw[←TE,aLU];omega
 have xU:∀i,i<n2→Rk[i]? = vs[i]? := fun i hi=>by rw[←TE,aKI hi]
 have S7:=rI adG
 have Qp:=rI IZ
 rw[hL] at S7
 rw[G7] at Qp
 have hVL:val 4294967296 vs≤4294967296^L:=aKm (aK2 Qp) (aMp (by decide) hle)
 have e0:∀ {K:aA} {es:List VV},aG K b g=some (es,1,true)→rC (.ref b g o L c) K=some (VI L):=fun h=>eK h
 have e00:∀ {K:aA},aG K b2 g2=some (Rk.map uV,1,w2)→rC (.ref b2 g2 0 n2 c2) K=some (VI n2):=fun h=>eK h
 have rd:∀(s:List Nat),s.length=L→aG (H.set b (.row g ((pre++s++post).map uV) 1 true)) b g=some ((pre++s++post).map uV,1,true):=fun s _=>pX hr
 have rd2:∀(s:List Nat),aG (H.set b (.row g ((pre++s++post).map uV) 1 true)) b2 g2=some (Rk.map uV,1,w2):=fun s=>by rw[SN hb];exact hr2
 have wi:∀i:Nat,i<L→IntKind.i64.wrap ((i:Int)+1)=((i+1:Nat):Int):=fun i hi=>wrapN (i+1) (by omega) (by omega)
 have back:∀(ρ:cT) (s:List Nat),s.length=L→(∀d∈s,d<4294967296)→(∀s2:List Nat,s2.length=L→(∀d∈s2,d<4294967296)→∀c,val 4294967296 s+val 4294967296 vs=val 4294967296 s2+4294967296^L*c→val 4294967296 s2+t*val 4294967296 vs=val 4294967296 jL+val 4294967296 vs)→val 4294967296 jL<t*val 4294967296 vs→ρ 0 = .ref b g o L c→ρ 1 = .ref b2 g2 0 n2 c2→ρ 7=VK .u64 0→ρ 58=VI L→ρ 59=VI 0 →
   VW ⟨true,false⟩ lo (.loop nT) (tI 2 (pO (VW ⟨true,false⟩ lo (.seq (.cV [⟨(some 6),(.mv (.const (.bool true))),none,false,[]⟩]) .ret) (CQ [.tmp 6] fun r H'=>∃uP:List Nat,H'=H.set b (.row g ((pre++uP++post).map uV) 1 true)∧uP.length=L∧(∀d∈uP,d<4294967296)∧((r=VB false∧val 4294967296 uP+t*val 4294967296 vs=val 4294967296 jL)∨(r=VB true∧val 4294967296 jL<t*val 4294967296 vs∧val 4294967296 uP+t*val 4294967296 vs=val 4294967296 jL+val 4294967296 vs)))) (CQ [.tmp 6] fun r H'=>∃uP:List Nat,H'=H.set b (.row g ((pre++uP++post).map uV) 1 true)∧uP.length=L∧(∀d∈uP,d<4294967296)∧((r=VB false∧val 4294967296 uP+t*val 4294967296 vs=val 4294967296 jL)∨(r=VB true∧val 4294967296 jL<t*val 4294967296 vs∧val 4294967296 uP+t*val 4294967296 vs=val 4294967296 jL+val 4294967296 vs))))) ρ (H.set b (.row g ((pre++s++post).map uV) 1 true)):=by
  intro ρ s hs SM Oe aqV g0 g1 g7 g58 g59
  refine aR (fun(u:Nat×List Nat×Nat) ρ K=>u.1≤L∧K=H.set b (.row g ((pre++u.2.1++post).map uV) 1 true)∧u.2.1.length=L∧(∀d∈u.2.1,d<4294967296)∧u.2.2≤1∧val 4294967296 (s.take u.1)+val 4294967296 (vs.take u.1)=val 4294967296 (u.2.1.take u.1)+4294967296^u.1*u.2.2∧(∀j,u.1≤j→u.2.1[j]? = s[j]?) ∧
   ρ 0 = .ref b g o L c∧ρ 1 = .ref b2 g2 0 n2 c2∧ρ 7=VK .u64 u.2.2∧ρ 58=VI L∧ρ 59=VI u.1) (fun u=>L-u.1) (0,s,0) ⟨aKP _,rfl,hs,SM,by simp,by simp[val],fun _ _=>rfl,g0,g1,g7,g58,g59⟩ ?_
  rintro⟨i,outs,cy⟩ tG K ⟨hi,rfl,iA,nI,hc,hv,IK,k0,k1,k7,k58,k59⟩
  simp only at hi iA nI hc hv IK k7 k59
  by_cases bX:(i:Int)<(L:Int)
  ·obtain⟨x,hx⟩:∃x,outs[i]? = some x:=⟨_,aKs (by omega)⟩
   have lx:=nI x (aLf hx)
   have I1:s[i]? = some x:=by rw[←IK i (aKl _)];exact hx
   have e1:bJ 1 (.ref b g o L c) (VI i) (H.set b (.row g ((pre++outs++post).map uV) 1 true))=some (.ptr b g (o+i) 0):=bA (rd outs iA) (by omega)
   have e2:bI false 1 (.ptr b g (o+i) 0) (H.set b (.row g ((pre++outs++post).map uV) 1 true))=some (uV x):=kB (rd outs iA) (by rw[Tr ho (by omega)];exact hx)
   have e3:∀d:Nat,bK lo 1 (.ptr b g (o+i) 0) (uV d) (H.set b (.row g ((pre++outs++post).map uV) 1 true))=some (H.set b (.row g ((pre++outs.set i d++post).map uV) 1 true)):=fun d=>by
    rw[aiU (rd outs iA) ho (by omega) dQ,oP]
   have e4:=e00 (rd2 outs)
   have w1:IntKind.u64.wrap (x:Int)=(x:Int):=eT _ (by omega)
   have w2:IntKind.u64.wrap ((cy:Int)+(x:Int))=((cy+x:Nat):Int):=by rw[←aMq];exact eT _ (by omega)
   have wii:=wi i (by omega)
   have step:∀y,y<4294967296→(∀d,vs[i]? = some d→d=y)→(vs.length≤i→y=0) →
     (i+1≤L∧(outs.set i ((cy+x+y) % 4294967296)).length=L∧(∀d∈outs.set i ((cy+x+y) % 4294967296),d<4294967296)∧(cy+x+y) / 4294967296≤1∧val 4294967296 (s.take (i+1))+val 4294967296 (vs.take (i+1))=val 4294967296 ((outs.set i ((cy+x+y) % 4294967296)).take (i+1))+4294967296^(i+1)*((cy+x+y) / 4294967296))∧∀j,i+1≤j→(outs.set i ((cy+x+y) % 4294967296))[j]? = s[j]? := by
    intro y hy h1 h2
    refine⟨⟨by omega,by rw[aMk];exact iA,nU nI (aKN _ (by decide)),by omega,?_⟩,fun j hj=>by rw[aKK (by omega)];exact IK j (by omega)⟩
    have hy':val 4294967296 (vs.take (i+1))=val 4294967296 (vs.take i)+4294967296^i*y:=by
     cases XS:vs[i]? with
     | some d=>rw[bE XS,h1 d XS]
     |
      none =>
      have hle:=aMy.1 XS
      rw[h2 hle,lE hle,lE (by omega),aMz,aMA]
    rw[bE I1,hy',fB (by omega),aLM]
    exact Ii hv rfl (aMn _ _)
   by_cases bF:(i:Int)<(n2:Int)
   ·obtain⟨y,hy⟩:∃y,vs[i]? = some y:=⟨_,aKs (by omega)⟩
    have ly:=IZ y (aLf hy)
    have f1:bJ 1 (.ref b2 g2 0 n2 c2) (VI i) (H.set b (.row g ((pre++outs++post).map uV) 1 true))=some (.ptr b2 g2 i 0):=by rw[bA (rd2 outs) (by omega),aLT]
    have f2:bI false 1 (.ptr b2 g2 i 0) (H.set b (.row g ((pre++outs++post).map uV) 1 true))=some (uV y):=kB (rd2 outs) (by rw[xU i (by omega)];exact hy)
    have w3:IntKind.u64.wrap (y:Int)=(y:Int):=eT _ (by omega)
    have w4:IntKind.u64.wrap (((cy+x:Nat):Int)+(y:Int))=((cy+x+y:Nat):Int):=by rw[←aMq];exact eT _ (by omega)
    obtain⟨⟨s1,s2,s3,s4,s5⟩,s6⟩:=step y ly (fun d hd=>by rw[hy] at hd;injection hd with hd;exact hd.symm) (fun h=>by omega)
    simp only[nT,k0,k1,k7,k58,k59,bX,bF,e1,e2,e3,e4,f1,f2,w1,w2,w3,w4,wii,wrap32,qV,VX,Nat.reduceEqDiff,Nat.reduceAdd]
    exact⟨(i+1,outs.set i ((cy+x+y) % 4294967296),(cy+x+y) / 4294967296),by simp only;omega,s1,rfl,s2,s3,s4,s5,s6,by (repeat' apply aL1)<;>first | rfl | trivial⟩
   ·obtain⟨⟨s1,s2,s3,s4,s5⟩,s6⟩:=step 0 (by decide) (fun d hd=>by have:=(aKk.1 hd).1;omega) (fun _=>rfl)
    simp only[aMA] at s2 s3 s4 s5 s6
    simp only[nT,k0,k1,k7,k58,k59,bX,bF,e1,e2,e3,e4,w1,w2,wii,wrap32,qV,VX,Nat.reduceEqDiff,Nat.reduceAdd]
    exact⟨(i+1,outs.set i ((cy+x) % 4294967296),(cy+x) / 4294967296),by simp only;omega,s1,rfl,s2,s3,s4,s5,s6,by (repeat' apply aL1)<;>first | rfl | trivial⟩
  ·have nC:i=L:=by omega
   subst nC
   rw[aLe (by omega),aLe (by omega),aLe (by omega)] at hv
   simp only[nT,k0,k1,k7,k58,k59,bX,VX,Nat.reduceEqDiff,Nat.reduceAdd]
   exact⟨outs,rfl,iA,nI,.inr ⟨aqV,Oe outs iA nI cy hv⟩⟩
 simp only[HH,Eg,e0 hr,VX,Nat.reduceEqDiff,Nat.reduceAdd]
 refine aR (fun(u:Nat×List Nat×Nat×Nat) ρ K=>u.1≤L∧K=H.set b (.row g ((pre++u.2.1++post).map uV) 1 true)∧u.2.1.length=L∧(∀d∈u.2.1,d<4294967296)∧u.2.2.1<4294967296∧u.2.2.2≤1∧val 4294967296 (jL.take u.1)+4294967296^u.1*(u.2.2.1+u.2.2.2)=val 4294967296 (u.2.1.take u.1)+t*val 4294967296 (vs.take u.1)∧(∀j,u.1≤j→u.2.1[j]? = jL[j]?) ∧
  ρ 0 = .ref b g o L c∧ρ 1 = .ref b2 g2 0 n2 c2∧ρ 2=VK .u64 t∧ρ 7=VK .u64 u.2.2.1∧ρ 8=VI u.2.2.2∧ρ 13=VI L∧ρ 14=VI u.1) (fun u=>L-u.1) (0,jL,0,0) ⟨aKP _,(Ar hr).symm,hL,adG,by simp,by simp,by simp[val],fun _ _=>rfl,by (repeat' apply aL1)<;>first | rfl | trivial⟩ ?_
 rintro⟨i,outs,cy,l⟩ ρ K ⟨hi,rfl,iA,nI,hc,Dw,hv,IK,k0,k1,k2,k7,k8,B5,CY⟩
 simp only at hi iA nI hc Dw hv IK k7 k8 CY
 by_cases bX:(i:Int)<(L:Int)
 ·obtain⟨x,hx⟩:∃x,outs[i]? = some x:=⟨_,aKs (by omega)⟩
  have lx:=nI x (aLf hx)
  have I1:jL[i]? = some x:=by rw[←IK i (aKl _)];exact hx
  have e1:bJ 1 (.ref b g o L c) (VI i) (H.set b (.row g ((pre++outs++post).map uV) 1 true))=some (.ptr b g (o+i) 0):=bA (rd outs iA) (by omega)
  have e2:bI false 1 (.ptr b g (o+i) 0) (H.set b (.row g ((pre++outs++post).map uV) 1 true))=some (uV x):=kB (rd outs iA) (by rw[Tr ho (by omega)];exact hx)
  have e3:∀d:Nat,bK lo 1 (.ptr b g (o+i) 0) (uV d) (H.set b (.row g ((pre++outs++post).map uV) 1 true))=some (H.set b (.row g ((pre++outs.set i d++post).map uV) 1 true)):=fun d=>by
   rw[aiU (rd outs iA) ho (by omega) dQ,oP]
  have e4:=e00 (rd2 outs)
  have wii:=wi i (by omega)
  have w1:IntKind.i64.wrap (x:Int)=(x:Int):=wrapN x rfl (by omega)
  have step:∀y c1,y<4294967296→c1=cy+t*y→(∀d,vs[i]? = some d→d=y)→(vs.length≤i→y=0) →
    c1 / 4294967296<4294967296∧IntKind.i64.wrap ((x:Int)-((c1 % 4294967296:Nat):Int)-(l:Int))=(x:Int)-((c1 % 4294967296:Nat):Int)-(l:Int)∧IntKind.i64.wrap ((x:Int)-((c1 % 4294967296:Nat):Int))=(x:Int)-((c1 % 4294967296:Nat):Int) ∧
    ∃r l',l'≤1∧((x:Int)-((c1 % 4294967296:Nat):Int)-(l:Int)<0↔l'=1)∧IntKind.u32.wrap ((x:Int)-((c1 % 4294967296:Nat):Int)-(l:Int))=((r:Nat):Int) ∧
    (i+1≤L∧(outs.set i r).length=L∧(∀d∈outs.set i r,d<4294967296)∧c1 / 4294967296<4294967296∧l'≤1∧val 4294967296 (jL.take (i+1))+4294967296^(i+1)*(c1 / 4294967296+l')=val 4294967296 ((outs.set i r).take (i+1))+t*val 4294967296 (vs.take (i+1))∧∀j,i+1≤j→(outs.set i r)[j]? = jL[j]?):=by
   intro y c1 hy hc1 h1 h2
   have hty:t*y≤4294967295*4294967295:=aMC (by omega) (by omega)
   have hm:=aKN c1 (show 0<4294967296 by decide)
   have hdv:=aMn c1 4294967296
   have hq:c1 / 4294967296<4294967296:=Nat.div_lt_of_lt_mul (by omega)
   refine⟨hq,wrap64 (by omega) (by omega),wrap64 (by omega) (by omega),?_⟩
   obtain⟨r,l',EZ,IY,hd,hlw,jV⟩:∃r l':Nat,l'≤1∧r<4294967296∧r+c1 % 4294967296+l=x+4294967296*l'∧IntKind.u32.wrap ((x:Int)-((c1 % 4294967296:Nat):Int)-(l:Int))=((r:Nat):Int)∧((x:Int)-((c1 % 4294967296:Nat):Int)-(l:Int)<0↔l'=1):=by
    by_cases hn:(x:Int)-((c1 % 4294967296:Nat):Int)-(l:Int)<0
    ·exact⟨x+4294967296-c1 % 4294967296-l,1,by omega,by omega,by omega,PG (by omega) hn (by omega),fun _=>rfl,fun _=>hn⟩
    ·exact⟨x-c1 % 4294967296-l,0,by omega,by omega,by omega,by rw[IntKind.wrap_u32];omega,fun h=>absurd h hn,fun h=>by omega⟩
   refine⟨r,l',EZ,jV,hlw,by omega,by rw[aMk];exact iA,nU nI IY,hq,EZ,?_,fun j hj=>by rw[aKK (by omega)];exact IK j (by omega)⟩
   have hy':val 4294967296 (vs.take (i+1))=val 4294967296 (vs.take i)+4294967296^i*y:=by
    cases XS:vs[i]? with
    | some d=>rw[bE XS,h1 d XS]
    |
     none =>
     have hle:=aMy.1 XS
     rw[h2 hle,lE hle,lE (by omega),aMz,aMA]
   rw[bE I1,hy',fB (by omega),aLM]
   have:=afH hv hc1 hdv.symm hd
   rw[this,aMI,Nat.mul_left_comm t]
  by_cases bF:(i:Int)<(n2:Int)
  ·obtain⟨y,hy⟩:∃y,vs[i]? = some y:=⟨_,aKs (by omega)⟩
   have ly:=IZ y (aLf hy)
   have f1:bJ 1 (.ref b2 g2 0 n2 c2) (VI i) (H.set b (.row g ((pre++outs++post).map uV) 1 true))=some (.ptr b2 g2 i 0):=by rw[bA (rd2 outs) (by omega),aLT]
   have f2:bI false 1 (.ptr b2 g2 i 0) (H.set b (.row g ((pre++outs++post).map uV) 1 true))=some (uV y):=kB (rd2 outs) (by rw[xU i (by omega)];exact hy)
   have w3:IntKind.u64.wrap (y:Int)=(y:Int):=eT _ (by omega)
   have hty:t*y≤4294967295*4294967295:=aMC (by omega) (by omega)
   have w4:IntKind.u64.wrap ((t:Int)*(y:Int))=((t*y:Nat):Int):=by rw[←aMJ];exact eT _ (by omega)
   have w5:IntKind.u64.wrap ((cy:Int)+((t*y:Nat):Int))=((cy+t*y:Nat):Int):=by rw[←aMq];exact eT _ (by omega)
   have w6:IntKind.i64.wrap (((cy+t*y) % 4294967296:Nat):Int)=(((cy+t*y) % 4294967296:Nat):Int):=wrapN _ rfl (by omega)
   obtain⟨_,a1,a2,r,l',EZ,jV,hw,s1,s2,s3,s4,s5,s6,s7⟩:=step y (cy+t*y) ly rfl (fun d hd=>by rw[hy] at hd;injection hd with hd;exact hd.symm) (fun h=>by omega)
   by_cases hn:(x:Int)-(((cy+t*y) % 4294967296:Nat):Int)-(l:Int)<0
   ·have:=jV.1 hn
    subst this
    simp only[gR,k0,k1,k2,k7,k8,B5,CY,bX,bF,e1,e2,e3,e4,f1,f2,w1,w3,w4,w5,w6,a1,a2,hn,hw,wii,wrap32,qV,VX,Nat.reduceEqDiff,Nat.reduceAdd]
    exact⟨(i+1,outs.set i r,(cy+t*y) / 4294967296,1),by simp only;omega,s1,rfl,s2,s3,s4,s5,s6,s7,by (repeat' apply aL1)<;>first | rfl | trivial⟩
   ·have:l'=0:=by
     have:l'≠1:=fun h=>hn (jV.2 h)
     omega
    subst this
    simp only[gR,k0,k1,k2,k7,k8,B5,CY,bX,bF,e1,e2,e3,e4,f1,f2,w1,w3,w4,w5,w6,a1,a2,hn,hw,wii,wrap32,qV,VX,Nat.reduceEqDiff,Nat.reduceAdd]
    exact⟨(i+1,outs.set i r,(cy+t*y) / 4294967296,0),by simp only;omega,s1,rfl,s2,s3,s4,s5,s6,s7,by (repeat' apply aL1)<;>first | rfl | trivial⟩
  ·have w6:IntKind.i64.wrap ((cy % 4294967296:Nat):Int)=((cy % 4294967296:Nat):Int):=wrapN _ rfl (by omega)
   obtain⟨_,a1,a2,r,l',EZ,jV,hw,s1,s2,s3,s4,s5,s6,s7⟩:=step 0 cy (by decide) (by simp) (fun d hd=>by have:=(aKk.1 hd).1;omega) (fun _=>rfl)
   by_cases hn:(x:Int)-((cy % 4294967296:Nat):Int)-(l:Int)<0
   ·have:=jV.1 hn
    subst this
    simp only[gR,k0,k1,k2,k7,k8,B5,CY,bX,bF,e1,e2,e3,e4,w1,w6,a1,a2,hn,hw,wii,wrap32,qV,VX,Nat.reduceEqDiff,Nat.reduceAdd]
    exact⟨(i+1,outs.set i r,cy / 4294967296,1),by simp only;omega,s1,rfl,s2,s3,s4,s5,s6,s7,by (repeat' apply aL1)<;>first | rfl | trivial⟩
   ·have:l'=0:=by
     have:l'≠1:=fun h=>hn (jV.2 h)
     omega
    subst this
    simp only[gR,k0,k1,k2,k7,k8,B5,CY,bX,bF,e1,e2,e3,e4,w1,w6,a1,a2,hn,hw,wii,wrap32,qV,VX,Nat.reduceEqDiff,Nat.reduceAdd]
    exact⟨(i+1,outs.set i r,cy / 4294967296,0),by simp only;omega,s1,rfl,s2,s3,s4,s5,s6,s7,by (repeat' apply aL1)<;>first | rfl | trivial⟩
 ·have nC:i=L:=by omega
  subst nC
  rw[aLe (by omega),aLe (by omega),aLe (by omega)] at hv
  have awM:=rI nI
  rw[iA] at awM
  by_cases hz:l=0∧cy=0
  ·obtain⟨rfl,rfl⟩:=hz
   simp only[gR,k0,k1,k2,k7,k8,B5,CY,bX,Int.natCast_zero,VX,Nat.reduceEqDiff,Nat.reduceAdd]
   exact⟨outs,rfl,iA,nI,.inl (by simpa using hv.symm)⟩
  ·have acJ:cy+l=1:=by
    rcases akA hv awM hVL xB with h | h<;>omega
   rw[acJ,Nat.mul_one] at hv
   have aqV:val 4294967296 jL<t*val 4294967296 vs:=by omega
   have fin:∀s2:List Nat,s2.length=i→(∀d∈s2,d<4294967296)→∀c,val 4294967296 outs+val 4294967296 vs=val 4294967296 s2+4294967296^i*c→val 4294967296 s2+t*val 4294967296 vs=val 4294967296 jL+val 4294967296 vs:=by
    intro s2 h2 h3 c h4
    have h5:=rI h3
    rw[h2] at h5
    exact alJ hv h4 h5 hVL xB S7 (by omega)
   have hlen:=e0 (rd outs iA)
   by_cases Cf:(l:Int)=0
   ·have hcy:¬(cy:Int)=0:=by omega
    simp only[gR,k0,k1,k2,k7,k8,B5,CY,bX,Cf,hcy,hlen,VX,Nat.reduceEqDiff,Nat.reduceAdd]
    exact back _ outs iA nI fin aqV k0 k1 (by rfl) (by rfl) (by rfl)
   ·simp only[gR,k0,k1,k2,k7,k8,B5,CY,bX,Cf,hlen,VX,Nat.reduceEqDiff,Nat.reduceAdd]
    exact back _ outs iA nI fin aqV k0 k1 (by rfl) (by rfl) (by rfl)
end Go.PM
namespace Go.PM
section
variable {H:aA} {b g o i lo d:Nat} {L R:List VV} {low:List Nat}
theorem anZ (hr:aG H b g=some (L++low.map tV++R,1,true)) (ho:L.length=o) (hi:low[i]? = some d):bI false 1 (.ptr b g (o+i) 0) H=some (VI (d:Int)):=by
 have bF:=(aKk.1 hi).1
 rw[Tf hr (x:=tV d) (by rw[Tr ho (by simpa using bF)];simp[hi])]
 rfl
theorem anO (hr:aG H b g=some (L++low.map tV++R,1,true)) (ho:L.length=o) (hi:i<low.length) (dQ:lo≤b):bK lo 1 (.ptr b g (o+i) 0) (VI (d:Int)) H=some (H.set b (.row g (L++(low.set i d).map tV++R) 1 true)):=by
 rw[bR hr (by simp only[aKw,List.length_map];omega) dQ rfl rfl,aaH ho (by simpa using hi),List.map_set]
theorem X7 {n:Nat} {z:Int} (hr:aG H b g=some (L++low.map tV++VI z::R,1,true)) (ho:L.length=o) (hn:low.length=n):bI false 1 (.ptr b g (o+n) 0) H=some (VI z):=by
 rw[Tf hr (x:=VI z) (by rw[List.getElem?_append_right (by simp;omega)];simp[ho,hn])]
 rfl
theorem anF {n:Nat} {z z':Int} (hr:aG H b g=some (L++low.map tV++VI z::R,1,true)) (ho:L.length=o) (hn:low.length=n) (dQ:lo≤b):bK lo 1 (.ptr b g (o+n) 0) (VI z') H=some (H.set b (.row g (L++low.map tV++VI z'::R) 1 true)):=by
 rw[bR hr (by simp only[aKw,List.length_map,List.length_cons];omega) dQ rfl rfl,List.set_append_right _ _ (by simp;omega)]
 congr 5
 simp[ho,hn]
end
theorem Sq {P A N B c u x t r k m q T:Nat} (h:A+P*c=N+t*B) (h1:r+m+c=u+T*k) (h2:m+T*q=x*t):(A+P*u)+P*T*(q+k)=(N+P*r)+t*(B+P*x):=by
 have e1:P*(r+m+c)=P*(u+T*k):=by rw[h1]
 have e2:P*(m+T*q)=P*(x*t):=by rw[h2]
 grind
theorem akN {x t:Nat} (hx:x<1000000000) (ht:t<1000000000):x*t≤999999998000000001∧x*t / 1000000000≤999999998:=by
 have h:x*t≤999999999*999999999:=aMC (by omega) (by omega)
 omega
theorem aeX {H:aA} {lo b g o n N t top:Nat} {L R:List VV} {low vs:List Nat} (hr:aG H b g=some (L++low.map tV++VI (top:Int)::R,1,true)) (dQ:lo≤b) (ho:L.length=o) (hl:low.length=n) (G7:vs.length=n) (hN:o+n<N) (F1:N≤70368744177664)
  (hld:∀d∈low,d<1000000000) (IZ:∀d∈vs,d<1000000000) (ht:t<1000000000) (anJ:top<1000000000) :
  jA 204 [.ref b g 0 N N,jJ vs,VI (o:Int),VI (t:Int)] lo H fun r H'=>∃(Dn:List Nat) (c:Nat),H'=H.set b (.row g (L++Dn.map tV++VI ((top:Int)-(c:Int))::R) 1 true)∧Dn.length=n∧(∀d∈Dn,d<1000000000)∧c≤1000000000 ∧
   r=VB (decide ((top:Int)-(c:Int)<0))∧val 1000000000 low+1000000000^n*c=val 1000000000 Dn+t*val 1000000000 vs:=by
 refine jA.walk ⟨true,false⟩ I0 (aL9 rfl) ?_
 have rd:∀(s:List Nat) (z:Int),aG (H.set b (.row g (L++s.map tV++VI z::R) 1 true)) b g=some (L++s.map tV++VI z::R,1,true):=fun s z=>pX hr
 have ad:∀(K:aA) (es:List VV) (i:Nat),aG K b g=some (es,1,true)→i≤n→bJ 1 (.ref b g 0 N N) (VI ((o+i:Nat):Int)) K=some (.ptr b g (o+i) 0):=fun K es i h hi=>by rw[bA h (by omega),aLT]
 simp only[Ez,BT,eR,VX,Nat.reduceEqDiff,Nat.reduceAdd]
 refine aR (fun(u:Nat×List Nat×Nat) ρ K=>u.1≤n∧K=H.set b (.row g (L++u.2.1.map tV++VI (top:Int)::R) 1 true)∧u.2.1.length=n∧(∀d∈u.2.1,d<1000000000)∧u.2.2≤1000000000∧val 1000000000 (low.take u.1)+1000000000^u.1*u.2.2=val 1000000000 (u.2.1.take u.1)+t*val 1000000000 (vs.take u.1)∧(∀j,u.1≤j→u.2.1[j]? = low[j]?) ∧
  ρ 0 = .ref b g 0 N N∧ρ 1=jJ vs∧ρ 2=VI o∧ρ 3=VI t∧ρ 9=VI u.2.2∧ρ 13=jJ vs∧ρ 14=VI vs.length∧ρ 15=VI u.1) (fun u=>n-u.1) (0,low,0) ⟨aKP _,(Ar hr).symm,hl,hld,by simp,by simp[val],fun _ _=>rfl,by (repeat' apply aL1)<;>first | rfl | trivial⟩ ?_
 rintro⟨i,outs,c⟩ ρ K ⟨hi,rfl,iA,nI,hc,hv,IK,k0,k1,k2,k3,k9,B5,CY,Nh⟩
 simp only at hi iA nI hc hv IK k9 Nh
 by_cases bX:(i:Int)<(vs.length:Int)
 ·obtain⟨u,hu⟩:∃u,outs[i]? = some u:=⟨_,aKs (by omega)⟩
  have lu:=nI u (aLf hu)
  have hu':low[i]? = some u:=by rw[←IK i (aKl _)];exact hu
  obtain⟨x,hx⟩:∃x,vs[i]? = some x:=⟨_,aKs (by omega)⟩
  have lx:=IZ x (aLf hx)
  obtain⟨xt1,xt2⟩:=akN lx ht
  have e1:bJ 1 (jJ vs) (VI i) (H.set b (.row g (L++outs.map tV++VI (top:Int)::R) 1 true))=some (.cF (tV x) 0):=aI (f:=tV) (t := .op) (size:=1) (k := .i64) hx rfl
  have w1:IntKind.i64.wrap ((o:Int)+(i:Int))=((o+i:Nat):Int):=wrapN _ (by omega) (by omega)
  have e2:=ad _ _ i (rd outs top) (by omega)
  have e3:=anZ (rd outs top) ho hu
  have e4:∀d:Nat,bK lo 1 (.ptr b g (o+i) 0) (VI (d:Int)) (H.set b (.row g (L++outs.map tV++VI (top:Int)::R) 1 true))=some (H.set b (.row g (L++(outs.set i d).map tV++VI (top:Int)::R) 1 true)):=fun d=>by rw[anO (rd outs top) ho (by omega) dQ,oP]
  have w2:IntKind.i64.wrap ((x:Int)*(t:Int))=((x*t:Nat):Int):=wrapN _ (by simp) (by omega)
  have r1:=RE (x*t)
  have q1:=RM (x*t) (by omega)
  have hm:=aKN (x*t) (show 0<1000000000 by decide)
  have hdv:=aMn (x*t) 1000000000
  have wi:IntKind.i64.wrap ((i:Int)+1)=((i+1:Nat):Int):=wrapN (i+1) (by omega) (by omega)
  generalize hmq:x*t % 1000000000=m at *
  generalize hqq:x*t / 1000000000=q at *
  have w3:IntKind.i64.wrap ((u:Int)-(m:Int))=(u:Int)-(m:Int):=wrap64 (by omega) (by omega)
  have w4:IntKind.i64.wrap ((u:Int)-(m:Int)-(c:Int))=(u:Int)-(m:Int)-(c:Int):=wrap64 (by omega) (by omega)
  have step:∀r k:Nat,r<1000000000→r+m+c=u+1000000000*k→val 1000000000 (low.take (i+1))+1000000000^(i+1)*(q+k)=val 1000000000 ((outs.set i r).take (i+1))+t*val 1000000000 (vs.take (i+1))∧(∀d∈outs.set i r,d<1000000000)∧(∀j,i+1≤j→(outs.set i r)[j]? = low[j]?)∧(outs.set i r).length=n:=by
   intro r k hr hk
   refine⟨?_,nU nI hr,fun j hj=>by rw[aKK (by omega)];exact IK j (by omega),by rw[aMk];exact iA⟩
   rw[bE hu',bE hx,fB (by omega),aLM]
   exact Sq hv hk hdv
  by_cases h1:(u:Int)-(m:Int)-(c:Int)<0
  ·have w5:IntKind.i64.wrap ((u:Int)-(m:Int)-(c:Int)+1000000000)=(u:Int)-(m:Int)-(c:Int)+1000000000:=wrap64 (by omega) (by omega)
   have w6:IntKind.i64.wrap ((q:Int)+1)=((q+1:Nat):Int):=wrapN _ (by omega) (by omega)
   by_cases h2:(u:Int)-(m:Int)-(c:Int)+1000000000<0
   ·obtain⟨r,hr⟩:∃r:Nat,r+m+c=u+1000000000*2:=⟨u+1000000000*2-m-c,by omega⟩
    have w7:IntKind.i64.wrap ((u:Int)-(m:Int)-(c:Int)+1000000000+1000000000)=(r:Int):=wrapN r (by omega) (by omega)
    have w8:IntKind.i64.wrap (((q+1:Nat):Int)+1)=((q+2:Nat):Int):=wrapN _ (by omega) (by omega)
    obtain⟨s1,s2,s3,s4⟩:=step r 2 (by omega) hr
    simp only[lI,k0,k1,k2,k3,k9,B5,CY,Nh,bX,e1,e2,e3,e4,w1,w2,w3,w4,w5,w6,w7,w8,wi,r1,q1,h1,h2,VX,Nat.reduceEqDiff,Nat.reduceAdd]
    refine⟨(i+1,outs.set i r,q+2),by simp only;omega,by omega,rfl,s4,s2,by simp only;omega,s1,s3,?_⟩
    try (repeat' apply aL1)<;>first | rfl | trivial
   ·obtain⟨r,hr⟩:∃r:Nat,r+m+c=u+1000000000*1:=⟨u+1000000000*1-m-c,by omega⟩
    have w7:IntKind.i64.wrap ((u:Int)-(m:Int)-(c:Int)+1000000000)=(r:Int):=wrapN r (by omega) (by omega)
    have h3:¬(r:Int)<0:=by omega
    obtain⟨s1,s2,s3,s4⟩:=step r 1 (by omega) hr
    simp only[lI,k0,k1,k2,k3,k9,B5,CY,Nh,bX,e1,e2,e3,e4,w1,w2,w3,w4,w6,w7,wi,r1,q1,h1,h3,VX,Nat.reduceEqDiff,Nat.reduceAdd]
    refine⟨(i+1,outs.set i r,q+1),by simp only;omega,by omega,rfl,s4,s2,by simp only;omega,s1,s3,?_⟩
    try (repeat' apply aL1)<;>first | rfl | trivial
  ·obtain⟨r,hr⟩:∃r:Nat,r+m+c=u+1000000000*0:=⟨u-m-c,by omega⟩
   have w7:IntKind.i64.wrap ((u:Int)-(m:Int)-(c:Int))=(r:Int):=wrapN r (by omega) (by omega)
   have h3:¬(r:Int)<0:=by omega
   obtain⟨s1,s2,s3,s4⟩:=step r 0 (by omega) hr
   simp only[lI,k0,k1,k2,k3,k9,B5,CY,Nh,bX,e1,e2,e3,e4,w1,w2,w3,w7,wi,r1,q1,h3,VX,Nat.reduceEqDiff,Nat.reduceAdd]
   refine⟨(i+1,outs.set i r,q),by simp only;omega,by omega,rfl,s4,s2,by simp only;omega,s1,s3,?_⟩
   try (repeat' apply aL1)<;>first | rfl | trivial
 ·have nC:i=n:=by omega
  subst nC
  rw[aLe (by omega),aLe (by omega),aLe (by omega)] at hv
  have w1:IntKind.i64.wrap ((o:Int)+(vs.length:Int))=((o+i:Nat):Int):=wrapN _ (by omega) (by omega)
  have e2:=ad _ _ i (rd outs top) (by omega)
  have e2':=ad _ _ i (rd outs ((top:Int)-(c:Int))) (by omega)
  have e3:=X7 (rd outs top) ho iA
  have e3':=X7 (rd outs ((top:Int)-(c:Int))) ho iA
  have e4:bK lo 1 (.ptr b g (o+i) 0) (VI ((top:Int)-(c:Int))) (H.set b (.row g (L++outs.map tV++VI (top:Int)::R) 1 true))=some (H.set b (.row g (L++outs.map tV++VI ((top:Int)-(c:Int))::R) 1 true)):=by rw[anF (rd outs top) ho iA dQ,oP]
  have w2:IntKind.i64.wrap ((top:Int)-(c:Int))=(top:Int)-(c:Int):=wrap64 (by omega) (by omega)
  simp only[lI,k0,k1,k2,k3,k9,B5,CY,Nh,bX,eR,w1,w2,e2,e2',e3,e3',e4,VX,Nat.reduceEqDiff,Nat.reduceAdd]
  refine⟨outs,c,rfl,iA,nI,hc,?_,hv⟩
  try rfl
theorem adJ {H:aA} {lo b g o n N:Nat} {z:Int} {L R:List VV} {low vs:List Nat} (hr:aG H b g=some (L++low.map tV++VI z::R,1,true)) (dQ:lo≤b) (ho:L.length=o) (hl:low.length=n) (G7:vs.length=n) (hN:o+n<N) (F1:N≤70368744177664)
  (hld:∀d∈low,d<1000000000) (IZ:∀d∈vs,d<1000000000) (hz : -1000000000≤z) (Nq:z≤1000000000) :
  jA 205 [.ref b g 0 N N,jJ vs,VI (o:Int)] lo H fun r H'=>∃(Dn:List Nat) (c:Nat),H'=H.set b (.row g (L++Dn.map tV++VI (z+(c:Int))::R) 1 true)∧Dn.length=n∧(∀d∈Dn,d<1000000000)∧c≤1 ∧
   val 1000000000 low+val 1000000000 vs=val 1000000000 Dn+1000000000^n*c:=by
 refine jA.walk ⟨true,false⟩ JA (aL9 rfl) ?_
 have rd:∀(s:List Nat) (z:Int),aG (H.set b (.row g (L++s.map tV++VI z::R) 1 true)) b g=some (L++s.map tV++VI z::R,1,true):=fun s z=>pX hr
 have ad:∀(K:aA) (es:List VV) (i:Nat),aG K b g=some (es,1,true)→i≤n→bJ 1 (.ref b g 0 N N) (VI ((o+i:Nat):Int)) K=some (.ptr b g (o+i) 0):=fun K es i h hi=>by rw[bA h (by omega),aLT]
 simp only[EF,B6,eR,VX,Nat.reduceEqDiff,Nat.reduceAdd]
 refine aR (fun(u:Nat×List Nat×Nat) ρ K=>u.1≤n∧K=H.set b (.row g (L++u.2.1.map tV++VI z::R) 1 true)∧u.2.1.length=n∧(∀d∈u.2.1,d<1000000000)∧u.2.2≤1∧val 1000000000 (low.take u.1)+val 1000000000 (vs.take u.1)=val 1000000000 (u.2.1.take u.1)+1000000000^u.1*u.2.2∧(∀j,u.1≤j→u.2.1[j]? = low[j]?) ∧
  ρ 0 = .ref b g 0 N N∧ρ 1=jJ vs∧ρ 2=VI o∧ρ 6=VI u.2.2∧ρ 10=jJ vs∧ρ 11=VI vs.length∧ρ 12=VI u.1) (fun u=>n-u.1) (0,low,0) ⟨aKP _,(Ar hr).symm,hl,hld,by simp,by simp[val],fun _ _=>rfl,by (repeat' apply aL1)<;>first | rfl | trivial⟩ ?_
 rintro⟨i,outs,c⟩ ρ K ⟨hi,rfl,iA,nI,hc,hv,IK,k0,k1,k2,k6,k10,YL,Lg⟩
 simp only at hi iA nI hc hv IK k6 Lg
 by_cases bX:(i:Int)<(vs.length:Int)
 ·obtain⟨u,hu⟩:∃u,outs[i]? = some u:=⟨_,aKs (by omega)⟩
  have lu:=nI u (aLf hu)
  have hu':low[i]? = some u:=by rw[←IK i (aKl _)];exact hu
  obtain⟨x,hx⟩:∃x,vs[i]? = some x:=⟨_,aKs (by omega)⟩
  have lx:=IZ x (aLf hx)
  have e1:bJ 1 (jJ vs) (VI i) (H.set b (.row g (L++outs.map tV++VI z::R) 1 true))=some (.cF (tV x) 0):=aI (f:=tV) (t := .op) (size:=1) (k := .i64) hx rfl
  have w1:IntKind.i64.wrap ((o:Int)+(i:Int))=((o+i:Nat):Int):=wrapN _ (by omega) (by omega)
  have e2:=ad _ _ i (rd outs z) (by omega)
  have e3:=anZ (rd outs z) ho hu
  have e4:∀d:Nat,bK lo 1 (.ptr b g (o+i) 0) (VI (d:Int)) (H.set b (.row g (L++outs.map tV++VI z::R) 1 true))=some (H.set b (.row g (L++(outs.set i d).map tV++VI z::R) 1 true)):=fun d=>by rw[anO (rd outs z) ho (by omega) dQ,oP]
  have w2:IntKind.i64.wrap ((u:Int)+(x:Int))=((u+x:Nat):Int):=wrapN _ (by omega) (by omega)
  have w3:IntKind.i64.wrap (((u+x:Nat):Int)+(c:Int))=((u+x+c:Nat):Int):=wrapN _ (by omega) (by omega)
  have r1:=RE (u+x+c)
  have q1:=RM (u+x+c) (by omega)
  have wi:IntKind.i64.wrap ((i:Int)+1)=((i+1:Nat):Int):=wrapN (i+1) (by omega) (by omega)
  simp only[uS,k0,k1,k2,k6,k10,YL,Lg,bX,e1,e2,e3,e4,w1,w2,w3,wi,r1,q1,VX,Nat.reduceEqDiff,Nat.reduceAdd]
  refine⟨(i+1,outs.set i ((u+x+c) % 1000000000),(u+x+c) / 1000000000),by simp only;omega,by omega,rfl,by rw[aMk];exact iA,nU nI (aKN _ (by decide)),by simp only;omega,?_,fun j hj=>by rw[aKK (by omega)];exact IK j (by omega),?_⟩
  ·simp only
   rw[bE hu',bE hx,fB (by omega),aLM]
   exact Ii hv (show c+u+x=u+x+c by omega) (aMn _ _)
  ·try (repeat' apply aL1)<;>first | rfl | trivial
 ·have nC:i=n:=by omega
  subst nC
  rw[aLe (by omega),aLe (by omega),aLe (by omega)] at hv
  have w1:IntKind.i64.wrap ((o:Int)+(vs.length:Int))=((o+i:Nat):Int):=wrapN _ (by omega) (by omega)
  have e2:=ad _ _ i (rd outs z) (by omega)
  have e3:=X7 (rd outs z) ho iA
  have e4:bK lo 1 (.ptr b g (o+i) 0) (VI (z+(c:Int))) (H.set b (.row g (L++outs.map tV++VI z::R) 1 true))=some (H.set b (.row g (L++outs.map tV++VI (z+(c:Int))::R) 1 true)):=by rw[anF (rd outs z) ho iA dQ,oP]
  have w2:IntKind.i64.wrap (z+(c:Int))=z+(c:Int):=wrap64 (by omega) (by omega)
  simp only[uS,k0,k1,k2,k6,k10,YL,Lg,bX,eR,w1,w2,e2,e3,e4,VX,Nat.reduceEqDiff,Nat.reduceAdd]
  exact⟨outs,c,rfl,iA,nI,hc,hv⟩
end Go.PM
namespace Go.PM
theorem Au {d:Nat} {H:aA}:fz (d+1) H (.tree [] .nil)=some (bN 0):=by
 rw[GG]
 unfold fz
 have:aX (.tree [] .nil)=false:=by simp[aX]
 simp only[this,aKX,if_false]
 rfl
theorem agJ {d:Nat} {H:aA} {m:Nat} {t:TK} (ht:t = .cl 1∨t = .op):fz (d+2) H (.tree ((aD 4294967296 m).map uV) t)=some (bN m):=by
 rcases ht with rfl | rfl
 ·unfold fz
  have:aX (.tree ((aD 4294967296 m).map uV) (.cl 1))=false:=by simp[aX]
  simp only[this,aKX,if_false]
  rw[mapM_pure (fM fun _=>rfl)]
  rfl
 ·exact aL (bT m)
abbrev H3 (us ws os:List Nat):aA:=[.row 0 (us.map uV) 1 true,.row 0 (ws.map uV) 1 true,.row 0 (os.map uV) 1 true]
theorem EV {us ws os:List Nat}:aG (H3 us ws os) 0 0=some (us.map uV,1,true):=rfl
theorem aAA {us ws os:List Nat}:aG (H3 us ws os) 1 0=some (ws.map uV,1,true):=rfl
theorem arI {us ws os:List Nat}:aG (H3 us ws os) 2 0=some (os.map uV,1,true):=rfl
theorem afE {us:List Nat} {i n N V:Nat} (hN:us.length=N) (bX:i+n<N) (hd:∀d∈us,d<4294967296) (hV:V<4294967296^n) (El:val 4294967296 (us.drop (i+1))<V) :
  us=us.take i++(us.drop i).take (n+1)++us.drop (i+(n+1))∧(us.take i).length=i∧((us.drop i).take (n+1)).length=n+1∧val 4294967296 ((us.drop i).take (n+1))<4294967296*V∧val 4294967296 (us.drop i)=val 4294967296 ((us.drop i).take (n+1))∧val 4294967296 (us.drop (i+(n+1)))=0∧∀j,j<n+1→((us.drop i).take (n+1))[j]? = us[i+j]? := by
 obtain⟨x,hx⟩:∃x,us[i]? = some x:=⟨_,aKs (by omega)⟩
 have lx:=hd x (aLf hx)
 have h1:=wT (b:=4294967296) hx
 have h2:val 4294967296 (us.drop i)<4294967296*V:=by
  have:4294967296*(val 4294967296 (us.drop (i+1))+1)≤4294967296*V:=aMl _ El
  omega
 have h3:=sQ (b:=4294967296) (us.drop i) (n+1)
 have h4:((us.drop i).take (n+1)).length=n+1:=by rw[aLU,aMK];omega
 rw[h4,aLl] at h3
 have h5:val 4294967296 (us.drop (i+(n+1)))=0:=by
  rcases Nat.eq_zero_or_pos (val 4294967296 (us.drop (i+(n+1)))) with h | h
  ·exact h
  ·have h6:4294967296^(n+1)*1≤4294967296^(n+1)*val 4294967296 (us.drop (i+(n+1))):=aMl _ h
   have h7:4294967296*V≤4294967296^(n+1):=by rw[aLM,aLN];exact aKM _ (by omega)
   omega
 rw[h5,aMz,aMA] at h3
 refine⟨?_,by rw[aLU];omega,h4,by omega,h3,h5,fun j hj => ?_⟩
 ·rw[aL7,←aLl,aLu,aLu]
 ·rw[aKI hj,aKj]
theorem UA {x D p w:Nat} (hp:0<p) (hw:p*w=4294967296):(x+4294967296*D) / p=((D % 4294967296*4294967296+x) / p) % 4294967296+4294967296*(D / p)∨¬x<4294967296:=by
 rcases Nat.lt_or_ge x 4294967296 with hx | hx
 ·left
  have h1:(x+4294967296*D) / p / 4294967296=D / p:=by
   rw[aMs,aLN p,←aMs,aML _ _ (by decide),aLS hx,aLT]
  have h2:(x+4294967296*D) / p % 4294967296=(D % 4294967296*4294967296+x) / p % 4294967296:=by
   have e:x+4294967296*D=(D % 4294967296*4294967296+x)+p*(4294967296*(w*(D / 4294967296))):=by
    have h3:=aMn D 4294967296
    have h4:p*(4294967296*(w*(D / 4294967296)))=(p*w)*(4294967296*(D / 4294967296)):=by grind
    rw[h4,hw]
    omega
   rw[e,aML _ _ hp,aMM]
  have:=aMn ((x+4294967296*D) / p) 4294967296
  rw[h1,h2] at this
  exact this.symm
 ·right
  omega
theorem Xq {x:Nat} (h0:x≠0) (hx:x<4294967296):∃s,s≤31∧TC 198 [uV x] (VI (s:Nat))∧x*2^s<4294967296:=by
 obtain⟨h1,h2,h3⟩:=Lib.bitLenAux_bounds 64 x (by omega) h0
 have h4:Lib.bitLenAux 64 x-1<32:=by
  have:2^(Lib.bitLenAux 64 x-1)<2^32:=by omega
  exact(aMN (by decide)).1 this
 refine⟨32-Lib.bitLenAux 64 x,by omega,?_,?_⟩
 ·have:=aeZ x hx
  have e:(((32-Lib.bitLenAux 64 x:Nat)):Int)=32-(Lib.bitLen x:Int):=by unfold Lib.bitLen;omega
  rw[e]
  exact this
 ·have:2^Lib.bitLenAux 64 x*2^(32-Lib.bitLenAux 64 x)=4294967296:=by rw[←Nat.pow_add,show Lib.bitLenAux 64 x+(32-Lib.bitLenAux 64 x)=32 by omega]
  rw[←this]
  exact aMO h3 (Nat.pow_pos (by decide))
theorem adL {us ws os:List Nat} {k N s w0:Nat} {ρ:cT} {Q:VQ} (hs:s≤31) (hw:2^s*w0=4294967296) (hN:us.length=N) (hk:k≤N) (F1:N≤70368744177664) (hd:∀d∈us,d<4294967296) (g8:ρ 8=VI s) (g9:ρ 9 = .ref 0 0 0 k N) (aFw:ρ 147=VI k) (aDO:ρ 148=VI 0)
  (hQ:∀(aP:cT) (IG:List Nat),aP 9 = .ref 0 0 0 k N→aP 13=ρ 13→IG.length=N→(∀d∈IG,d<4294967296)→val 4294967296 (IG.take k)=val 4294967296 (us.take k) / 2^s→Q (.exit 4) aP (H3 IG ws os)) :
  VW ⟨true,false⟩ 0 (.loop mV) Q ρ (H3 us ws os):=by
 have hp:0<2^s:=Nat.pow_pos (by decide)
 refine aR (fun(t:Nat×List Nat) aP H=>t.1≤k∧H=H3 t.2 ws os∧t.2.length=N∧(∀d∈t.2,d<4294967296)∧(∀j,t.1≤j→t.2[j]? = us[j]?)∧val 4294967296 (t.2.take t.1)+4294967296^t.1*(val 4294967296 ((us.take k).drop t.1) / 2^s)=val 4294967296 (us.take k) / 2^s ∧
  aP 8=VI s∧aP 9 = .ref 0 0 0 k N∧aP 13=ρ 13∧aP 147=VI k∧aP 148=VI t.1) (fun t=>k-t.1) (0,us) ⟨aKP _,rfl,hN,hd,fun _ _=>rfl,by simp[val],g8,g9,rfl,aFw,aDO⟩ ?_
 rintro⟨i,vs⟩ tG H ⟨hi,rfl,G7,IZ,IK,hv,k8,k9,B5,awN,arR⟩
 simp only at hi G7 IZ IK hv arR
 by_cases bX:(i:Int)<(k:Int)
 ·obtain⟨x,hx⟩:∃x,us[i]? = some x:=⟨_,aKs (by omega)⟩
  have hx2:vs[i]? = some x:=by rw[IK i (aKl _)];exact hx
  have lx:=hd x (aLf hx)
  have hx3:(us.take k)[i]? = some x:=by rw[aKI (by omega)];exact hx
  have h1:=wT (b:=4294967296) hx3
  generalize hD:val 4294967296 ((us.take k).drop (i+1))=D at *
  have hlen:rC (.ref 0 0 0 k N) (H3 vs ws os)=some (VI k):=eK EV
  have e1:bJ 1 (.ref 0 0 0 k N) (VI i) (H3 vs ws os)=some (.ptr 0 0 i 0):=by rw[bA EV (by omega),aLT]
  have e2:bI false 1 (.ptr 0 0 i 0) (H3 vs ws os)=some (uV x):=kB EV hx2
  have e3:∀d:Nat,bK 0 1 (.ptr 0 0 i 0) (uV d) (H3 vs ws os)=some (H3 (vs.set i d) ws os):=fun d=>by
   rw[dN (f:=uV) (e:=1) EV (by omega) (aKl _) rfl rfl]
   rfl
  have wi:IntKind.i64.wrap ((i:Int)+1)=((i+1:Nat):Int):=wrapN (i+1) (by omega) (by omega)
  have wx:IntKind.u64.wrap (x:Int)=(x:Int):=eT _ (by omega)
  have hm:=aKN D (show 0<4294967296 by decide)
  have w5:=Gz (D % 4294967296) .u64 hm
  have w6:IntKind.u64.wrap (((D % 4294967296*4294967296:Nat):Int)+(x:Int))=((D % 4294967296*4294967296+x:Nat):Int):=by rw[←aMq];exact eT _ (by omega)
  have w7:=ajP (D % 4294967296*4294967296+x) s hs
  have sd:(x+4294967296*D) / 2^s=((D % 4294967296*4294967296+x) / 2^s) % 4294967296+4294967296*(D / 2^s):=by
   rcases UA (x:=x) (D:=D) hp hw with h | h
   ·exact h
   ·exact absurd lx h
  have next:∃s':Nat×List Nat,k-s'.1<k-i∧s'.1≤k∧H3 (vs.set i (((D % 4294967296*4294967296+x) / 2^s) % 4294967296)) ws os=H3 s'.2 ws os∧s'.2.length=N∧(∀d∈s'.2,d<4294967296)∧(∀j,s'.1≤j→s'.2[j]? = us[j]?)∧val 4294967296 (s'.2.take s'.1)+4294967296^s'.1*(val 4294967296 ((us.take k).drop s'.1) / 2^s)=val 4294967296 (us.take k) / 2^s∧s'.1=i+1:=by
   refine⟨(i+1,vs.set i (((D % 4294967296*4294967296+x) / 2^s) % 4294967296)),by simp only;omega,by simp only;omega,rfl,by simp only[aMk];exact G7,nU IZ (aKN _ (by decide)),fun j hj => ?_,?_,rfl⟩
   ·simp only at hj ⊢
    rw[aKK (by omega)]
    exact IK j (by omega)
   ·simp only
    rw[fB (by omega),hD,←hv,h1,sd,aLM]
    generalize (D % 4294967296*4294967296+x) / 2^s % 4294967296=q
    generalize D / 2^s=E
    rw[aMI,aMx,Nat.add_assoc]
  obtain⟨s',n1,n2,n3,n4,n5,n6,n7,n8⟩:=next
  by_cases aAE:((i+1:Nat):Int)<(k:Int)
  ·obtain⟨h,hh⟩:∃h,us[i+1]? = some h:=⟨_,aKs (by omega)⟩
   have hh2:vs[i+1]? = some h:=by rw[IK (i+1) (by omega)];exact hh
   have hhD:D % 4294967296=h:=by
    have hh3:(us.take k)[i+1]? = some h:=by rw[aKI (by omega)];exact hh
    have:=wT (b:=4294967296) hh3
    rw[hD] at this
    have lh:=hd h (aLf hh)
    omega
   have f1:bJ 1 (.ref 0 0 0 k N) (VI ((i+1:Nat):Int)) (H3 vs ws os)=some (.ptr 0 0 (i+1) 0):=by rw[bA EV (by omega),aLT]
   have f2:bI false 1 (.ptr 0 0 (i+1) 0) (H3 vs ws os)=some (uV h):=kB EV hh2
   have wh:IntKind.u64.wrap (h:Int)=(h:Int):=eT _ (by omega)
   rw[hhD] at w5 w6 w7 n3
   simp only[mV,k8,k9,awN,arR,bX,aAE,hlen,e1,e2,e3,f1,f2,wi,wx,wh,w5,w6,w7,wrap32,VX,Nat.reduceEqDiff,Nat.reduceAdd]
   exact⟨s',n1,n2,n3,n4,n5,n6,n7,B5,by rw[n8]⟩
  ·have hD0:D=0:=by
    rw[←hD,aMe (by rw[aLU];omega)]
    rfl
   subst hD0
   have w5':dK .shl (.int .u64 0) (.int .u64 32)=some (.int .u64 0):=Gz 0 .u64 (by decide)
   have w6':IntKind.u64.wrap ((0:Int)+(x:Int))=(x:Int):=by rw[Int.zero_add];exact wx
   have w7':=ajP x s hs
   simp only[Nat.zero_mod,Nat.zero_mul,aLT] at n3
   simp only[mV,k8,k9,awN,arR,bX,aAE,hlen,e1,e2,e3,wi,wx,w5',w6',w7',wrap32,VX,Nat.reduceEqDiff,Nat.reduceAdd]
   exact⟨s',n1,n2,n3,n4,n5,n6,n7,B5,by rw[n8]⟩
 ·have nC:i=k:=by omega
  subst nC
  rw[aMe (by rw[aLU];omega)] at hv
  simp only[val,Nat.zero_div,aMz,aMA] at hv
  simp only[mV,k8,k9,awN,arR,bX,VX,Nat.reduceEqDiff,Nat.reduceAdd]
  exact hQ _ vs k9 B5 G7 IZ hv
end Go.PM
namespace Go.PM
theorem XN {jL vs us ws os:List Nat} {n u2 u1 u0 v1 v0 N k g left:Nat} (G:Af 4294967296 jL vs n u2 u1 u0 v1 v0) {ρ:cT} {Q:VQ} (hN:us.length=N) (Zd:2≤k) (hkN:k<N) (F1:N≤70368744177664) (hu0:us[k-2]? = some u0)
  (g9:ρ 9 = .ref 0 0 0 N N) (g11:ρ 11=VK .u64 v1) (g12:ρ 12=VK .u64 v0) (g15:ρ 15=VI k) (g17:ρ 17=VK .u64 g) (g18:ρ 18=VK .u64 left) (hh:u2*4294967296+u1=g*v1+left) (hq:val 4294967296 jL / val 4294967296 vs≤g) (hl:left<4294967296) (hgb:g<18446744073709551616)
  (hQ:∀(aP:cT) (g':Nat),val 4294967296 jL / val 4294967296 vs≤g'→g'≤val 4294967296 jL / val 4294967296 vs+1→g'<4294967296→aP 17=VK .u64 g'→aP 8=ρ 8→aP 9=ρ 9→aP 10=ρ 10→aP 11=ρ 11→aP 12=ρ 12→aP 13=ρ 13→aP 14=ρ 14→aP 15=ρ 15→Q (.exit 2) aP (H3 us ws os)) :
  VW ⟨true,false⟩ 0 (.loop iB) Q ρ (H3 us ws os):=by
 have lv1:=G.Z7
 have lv0:=G.aiN
 have lu0:=G.avG
 have qlt:=G.aqM
 have lR:=G.pos
 refine aR (fun(t:Nat×Nat) aP H=>H=H3 us ws os∧u2*4294967296+u1=t.1*v1+t.2∧val 4294967296 jL / val 4294967296 vs≤t.1∧t.2<4294967296∧t.1<18446744073709551616 ∧
  aP 9 = .ref 0 0 0 N N∧aP 11=VK .u64 v1∧aP 12=VK .u64 v0∧aP 15=VI k∧aP 17=VK .u64 t.1∧aP 18=VK .u64 t.2∧aP 8=ρ 8∧aP 10=ρ 10∧aP 13=ρ 13∧aP 14=ρ 14) (fun t=>4294967296-t.2) (g,left) ⟨rfl,hh,hq,hl,hgb,g9,g11,g12,g15,g17,g18,rfl,rfl,rfl,rfl⟩ ?_
 rintro⟨g,left⟩ tG H ⟨rfl,hh,hq,hl,hgb,k9,YL,Lg,Nh,Iw,WN,k8,k10,B5,CY⟩
 simp only at hh hq hl hgb Iw WN
 have e1:bJ 1 (.ref 0 0 0 N N) (VI ((k-2:Nat):Int)) (H3 us ws os)=some (.ptr 0 0 (k-2) 0):=by rw[bA EV (by omega),aLT]
 have e2:bI false 1 (.ptr 0 0 (k-2) 0) (H3 us ws os)=some (uV u0):=kB EV hu0
 have wk:IntKind.i64.wrap ((k:Int)-2)=((k-2:Nat):Int):=wrapN _ (by omega) (by omega)
 have wu:IntKind.u64.wrap (u0:Int)=(u0:Int):=eT _ (by omega)
 have ws:=Gz left .u64 hl
 have wa:IntKind.u64.wrap (((left*4294967296:Nat):Int)+(u0:Int))=((left*4294967296+u0:Nat):Int):=by rw[←aMq];exact eT _ (by omega)
 have wl:IntKind.u64.wrap ((left:Int)+(v1:Int))=((left+v1:Nat):Int):=by rw[←aMq];exact eT _ (by omega)
 have same:tG 9=ρ 9∧tG 11=ρ 11∧tG 12=ρ 12∧tG 15=ρ 15:=⟨by rw[k9,g9],by rw[YL,g11],by rw[Lg,g12],by rw[Nh,g15]⟩
 obtain⟨s9,s11,s12,s15⟩:=same
 have down:val 4294967296 jL / val 4294967296 vs<g→∃g',g=g'+1∧IntKind.u64.wrap ((g:Int)-1)=(g':Int)∧u2*4294967296+u1=g'*v1+(left+v1)∧val 4294967296 jL / val 4294967296 vs≤g':=by
  intro h
  have hg1:1≤g:=aMP (aKP _) h
  obtain⟨g',rfl⟩:∃g',g=g'+1:=⟨g-1,by omega⟩
  refine⟨g',rfl,?_,?_,by omega⟩
  ·rw[show ((g'+1:Nat):Int)-1=(g':Int) by omega]
   exact eT _ (by omega)
  ·rw[hh,aKQ]
   omega
 by_cases hA:(4294967296:Int)≤(g:Int)
 ·obtain⟨g',hg',wg,W6,Ob⟩:=down (by omega)
  by_cases hB:(4294967296:Int)≤((left+v1:Nat):Int)
  ·obtain⟨c1,c2⟩:=G.broken W6 (by omega)
   simp only[iB,k9,YL,Lg,Nh,Iw,WN,hA,hB,wg,wl,VX,Nat.reduceEqDiff,Nat.reduceAdd]
   exact hQ _ g' Ob (G.abL W6 (by omega) c2) c1 rfl k8 s9 k10 s11 s12 B5 CY s15
  ·simp only[iB,k9,YL,Lg,Nh,Iw,WN,hA,hB,wg,wl,VX,Nat.reduceEqDiff,Nat.reduceAdd]
   exact⟨(g',left+v1),by simp only;omega,W6,Ob,by simp only;omega,by simp only;omega,by rfl,by rfl,k8,k10,B5,CY⟩
 ·have hgv:g*v0≤4294967295*4294967295:=aMC (by omega) (by omega)
  have wm:IntKind.u64.wrap ((g:Int)*(v0:Int))=((g*v0:Nat):Int):=by rw[←aMJ];exact eT _ (by omega)
  by_cases hT:((left*4294967296+u0:Nat):Int)<((g*v0:Nat):Int)
  ·obtain⟨g',hg',wg,W6,Ob⟩:=down (G.too hh (by omega))
   by_cases hB:(4294967296:Int)≤((left+v1:Nat):Int)
   ·obtain⟨c1,c2⟩:=G.broken W6 (by omega)
    simp only[iB,k9,YL,Lg,Nh,Iw,WN,hA,hB,hT,e1,e2,wk,wu,ws,wa,wm,wg,wl,VX,Nat.reduceEqDiff,Nat.reduceAdd]
    exact hQ _ g' Ob (G.abL W6 (by omega) c2) c1 rfl k8 s9 k10 s11 s12 B5 CY s15
   ·simp only[iB,k9,YL,Lg,Nh,Iw,WN,hA,hB,hT,e1,e2,wk,wu,ws,wa,wm,wg,wl,VX,Nat.reduceEqDiff,Nat.reduceAdd]
    exact⟨(g',left+v1),by simp only;omega,W6,Ob,by simp only;omega,by simp only;omega,by rfl,by rfl,k8,k10,B5,CY⟩
  ·simp only[iB,k9,YL,Lg,Nh,Iw,WN,hA,hT,e1,e2,wk,wu,ws,wa,wm,VX,Nat.reduceEqDiff,Nat.reduceAdd]
   exact hQ _ g hq (G.abL hh (by omega) (by omega)) (by omega) Iw k8 s9 k10 s11 s12 B5 CY s15
theorem Ox {X S S' R V q Q P w:Nat} (hs:S=q*V+S') (h:X+P*S+P*w*V*Q=R):X+P*S'+P*V*(q+w*Q)=R:=by
 subst hs
 grind
theorem akU {G5 ws os0 vs:List Nat} {N m n v1 v0 A s:Nat} {ρ:cT} {Q:VQ} (hN:G5.length=N) (hm:m+(n+2)=N) (F1:N≤70368744177664) (ME:∀d∈G5,d<4294967296) (hws:ws.take (n+2)=vs) (hwl:ws.length=n+3) (G7:vs.length=n+2) (IZ:∀d∈vs,d<4294967296) (f1:vs[n+1]? = some v1) (f0:vs[n]? = some v0) (lR:1≤v1)
  (hA:val 4294967296 G5=A) (El:val 4294967296 (G5.drop m)<val 4294967296 vs) (iA:os0.length=m) (nI:∀d∈os0,d<4294967296)
  (g8:ρ 8=VI s) (g9:ρ 9 = .ref 0 0 0 N N) (g10:ρ 10 = .ref 1 0 0 (n+2) (n+3)) (g11:ρ 11=VK .u64 v1) (g12:ρ 12=VK .u64 v0) (g13:ρ 13 = .ref 2 0 0 m m) (g14:ρ 14=VI ((m:Int)-1))
  (hQ:∀(aP:cT) (us os:List Nat),aP 8=VI s→aP 9 = .ref 0 0 0 N N→aP 13 = .ref 2 0 0 m m→us.length=N→(∀d∈us,d<4294967296)→os.length=m→(∀d∈os,d<4294967296)→val 4294967296 us+val 4294967296 vs*val 4294967296 os=A→val 4294967296 us<val 4294967296 vs→Q (.exit 0) aP (H3 us ws os)) :
  VW ⟨true,false⟩ 0 (.loop qK) Q ρ (H3 G5 ws os0):=by
 have hVb:=rI IZ
 rw[G7] at hVb
 refine aR (fun(t:Nat×List Nat×List Nat) aP H=>t.1≤m∧H=H3 t.2.1 ws t.2.2∧t.2.1.length=N∧(∀d∈t.2.1,d<4294967296)∧t.2.2.length=m∧(∀d∈t.2.2,d<4294967296)∧val 4294967296 (t.2.1.drop t.1)<val 4294967296 vs∧val 4294967296 t.2.1+4294967296^t.1*val 4294967296 vs*val 4294967296 (t.2.2.drop t.1)=A ∧
  aP 8=VI s∧aP 9 = .ref 0 0 0 N N∧aP 10 = .ref 1 0 0 (n+2) (n+3)∧aP 11=VK .u64 v1∧aP 12=VK .u64 v0∧aP 13 = .ref 2 0 0 m m∧aP 14=VI ((t.1:Int)-1)) (fun t=>t.1) (m,G5,os0) ⟨aKl _,rfl,hN,ME,iA,nI,El,by rw[aMe (by simp only;omega)];simpa[val] using hA,g8,g9,g10,g11,g12,g13,g14⟩ ?_
 rintro⟨j,us,os⟩ tG H ⟨hj,rfl,TG,ME,iA,nI,bF,hv,k8,k9,k10,YL,Lg,B5,CY⟩
 simp only at hj TG ME iA nI bF hv CY
 by_cases hz:(0:Int)≤(j:Int)-1
 ·obtain⟨i,rfl⟩:∃i,j=i+1:=⟨j-1,by omega⟩
  have DV:((i+1:Nat):Int)-1=(i:Int):=by omega
  rw[DV] at CY hz
  obtain⟨XH,Dc,S7,hsW,ahK,agK,xU⟩:=afE (n:=n+2) TG (by omega) ME hVb bF
  generalize adG:(us.drop i).take (n+2+1)=jL at *
  have SM:∀d∈jL,d<4294967296:=fun d hd=>by rw[←adG] at hd;exact ME d (aLj (aLi hd))
  obtain⟨u2,hu2⟩:∃u2,us[i+(n+2)]? = some u2:=⟨_,aKs (by omega)⟩
  obtain⟨u1,hu1⟩:∃u1,us[i+(n+1)]? = some u1:=⟨_,aKs (by omega)⟩
  obtain⟨u0,hu0⟩:∃u0,us[i+n]? = some u0:=⟨_,aKs (by omega)⟩
  have G:Af 4294967296 jL vs n u2 u1 u0 v1 v0:=⟨by decide,SM,IZ,S7,G7,by rw[xU _ (by omega)];exact hu2,by rw[xU _ (by omega)];exact hu1,by rw[xU _ (by omega)];exact hu0,f1,f0,lR,hsW⟩
  have lu2:=G.auO
  have lu1:=G.agU
  have lv1:=G.Z7
  have qlt:=G.aqM
  have K3:=G.K3
  have avN:rC (.ref 1 0 0 (n+2) (n+3)) (H3 us ws os)=some (VI ((n+2:Nat):Int)):=eK aAA
  have w1:IntKind.i64.wrap ((i:Int)+((n+2:Nat):Int))=((i+(n+2):Nat):Int):=by rw[←aMq];exact wrapN _ rfl (by omega)
  have w2:IntKind.i64.wrap (((i+(n+2):Nat):Int)-1)=((i+(n+1):Nat):Int):=wrapN _ (by omega) (by omega)
  have e2:bJ 1 (.ref 0 0 0 N N) (VI ((i+(n+2):Nat):Int)) (H3 us ws os)=some (.ptr 0 0 (i+(n+2)) 0):=by rw[bA EV (by omega),aLT]
  have e1:bJ 1 (.ref 0 0 0 N N) (VI ((i+(n+1):Nat):Int)) (H3 us ws os)=some (.ptr 0 0 (i+(n+1)) 0):=by rw[bA EV (by omega),aLT]
  have l2:bI false 1 (.ptr 0 0 (i+(n+2)) 0) (H3 us ws os)=some (uV u2):=kB EV hu2
  have l1:bI false 1 (.ptr 0 0 (i+(n+1)) 0) (H3 us ws os)=some (uV u1):=kB EV hu1
  have wu2:IntKind.u64.wrap (u2:Int)=(u2:Int):=eT _ (by omega)
  have wu1:IntKind.u64.wrap (u1:Int)=(u1:Int):=eT _ (by omega)
  have ws2:=Gz u2 .u64 lu2
  have wa:IntKind.u64.wrap (((u2*4294967296:Nat):Int)+(u1:Int))=((u2*4294967296+u1:Nat):Int):=by rw[←aMq];exact eT _ (by omega)
  have q1:=YR (u2*4294967296+u1) v1 (by omega) lR
  have q2:=SA (u2*4294967296+u1) v1 lR
  simp only[qK,k8,k9,k10,YL,Lg,B5,CY,hz,avN,w1,w2,e1,e2,l1,l2,wu1,wu2,ws2,wa,q1,q2,VX,Nat.reduceEqDiff,Nat.reduceAdd]
  have hh:=aMn (u2*4294967296+u1) v1
  have hml:=aKN (u2*4294967296+u1) lR
  have hdl:(u2*4294967296+u1) / v1≤u2*4294967296+u1:=aMQ _ _
  have TJ:val 4294967296 jL / val 4294967296 vs≤(u2*4294967296+u1) / v1:=by
   have t1:=(FH (n:=n+1) (xs:=jL) SM (by omega) (by rw[xU _ (by omega)];exact hu2) (by rw[xU _ (by omega)];exact hu1)).2
   have t2:=(BY (n:=n+1) IZ G7 f1).1
   rw[aMR lR]
   have t3:val 4294967296 jL / val 4294967296 vs*(v1*4294967296^(n+1))≤val 4294967296 jL / val 4294967296 vs*val 4294967296 vs:=aMl _ t2
   have t4:=aMS (val 4294967296 jL) (val 4294967296 vs)
   have t5:val 4294967296 jL / val 4294967296 vs*v1*4294967296^(n+1)<(u2*4294967296+u1+1)*4294967296^(n+1):=by rw[aMx];omega
   have:=aMm t5
   omega
  refine XN (k:=i+(n+2)) G TG (by omega) (by omega) F1 (by rw[show i+(n+2)-2=i+n by omega];exact hu0) k9 YL Lg (by rfl) (by rfl) (by rfl) (by rw[aLN ((u2*4294967296+u1) / v1)];omega) TJ (by omega) (by omega) ?_
  intro wB g' hq Ob hgW r17 r8 r9 r10 r11 r12 r13 r14 r15
  have Wu:wB 15=VI ((i+(n+2):Nat):Int):=r15
  have r8':wB 8=VI s:=r8.trans k8
  have r9':wB 9 = .ref 0 0 0 N N:=r9.trans k9
  have awY:wB 10 = .ref 1 0 0 (n+2) (n+3):=r10.trans k10
  have awG:wB 11=VK .u64 v1:=r11.trans YL
  have Wy:wB 12=VK .u64 v0:=r12.trans Lg
  have Ws:wB 13 = .ref 2 0 0 m m:=r13.trans B5
  have Um:wB 14=VI i:=r14.trans CY
  have w3:IntKind.i64.wrap (((i+(n+2):Nat):Int)+1)=((i+(n+3):Nat):Int):=wrapN _ (by omega) (by omega)
  have akR:GQ 1 (.ref 0 0 0 N N) (some (VI i)) (some (VI ((i+(n+3):Nat):Int))) none (H3 us ws os)=some (.ref 0 0 i (n+3) (N-i)):=by
   rw[OM EV (by omega) (by omega),aLT,Nat.add_sub_cancel_left]
  simp only[r8',r9',awY,awG,Wy,Ws,Um,Wu,r17,w3,akR,VX,Nat.reduceEqDiff,Nat.reduceAdd]
  have xB:g'*val 4294967296 vs≤val 4294967296 jL+val 4294967296 vs:=by
   have:=aKM (val 4294967296 vs) Ob
   rw[aKQ,aMT] at this
   have:=aMS (val 4294967296 jL) (val 4294967296 vs)
   omega
  refine fS rfl ((Xz (pre:=us.take i) (jL:=jL) (post:=us.drop (i+(n+2+1))) (L:=n+3) (o:=i) (by rw[←XH];exact EV) (aAA (us:=us) (ws:=ws) (os:=os)) (by decide) (aKP _) Dc S7 (by omega) hws (by omega) (by omega) SM IZ hgW xB).mono ?_)
  rintro r H' ⟨uP,rfl,EZ,hd',hr⟩
  generalize aqC:us.take i++uP++us.drop (i+(n+2+1))=IG at *
  have Lo:(H3 us ws os).set 0 (.row 0 (IG.map uV) 1 true)=H3 IG ws os:=rfl
  rw[Lo]
  have awR:IG.length=N:=by rw[←aqC,aKw,aKw,Dc,EZ,aMK];omega
  have arE:∀d∈IG,d<4294967296:=fun d hd=>by
   rw[←aqC,aLh,aLh] at hd
   rcases hd with(hd | hd) | hd
   ·exact ME d (aLi hd)
   ·exact hd' d hd
   ·exact ME d (aLj hd)
  have Xs:IG.drop i=uP++us.drop (i+(n+2+1)):=by rw[←aqC,aL7,List.drop_append,aMe (by omega),Dc];simp
  have Xh:IG.take i=us.take i:=by rw[←aqC,aL7,aMU (by omega),aLe (by omega)]
  have Uo:val 4294967296 (IG.drop i)=val 4294967296 uP:=by rw[Xs,Bw,agK,aMz,aMA]
  have digit:∀q:Nat,q=val 4294967296 jL / val 4294967296 vs→val 4294967296 uP=val 4294967296 jL % val 4294967296 vs →
    val 4294967296 (IG.drop i)<val 4294967296 vs∧val 4294967296 IG+4294967296^i*val 4294967296 vs*val 4294967296 ((os.set i q).drop i)=A:=by
   rintro q WK hse
   have arB:=aKN (val 4294967296 jL) K3
   refine⟨by rw[Uo,hse];exact arB,?_⟩
   have h1:=aMV (val 4294967296 jL) (val 4294967296 vs)
   rw[←WK,←hse,aLN] at h1
   have h2:=sQ (b:=4294967296) us i
   have h3:=sQ (b:=4294967296) IG i
   rw[Xh,Dc,Uo] at h3
   rw[Dc,ahK] at h2
   rw[set_drop (by omega),vI,h3]
   rw[h2,aLM] at hv
   exact Ox h1.symm hv
  have e3:∀d:Nat,bJ 1 (.ref 2 0 0 m m) (VI i) (H3 IG ws os)=some (.ptr 2 0 i 0)∧bK 0 1 (.ptr 2 0 i 0) (uV d) (H3 IG ws os)=some (H3 IG ws (os.set i d)):=fun d=>by
   refine⟨by rw[bA arI (by omega),aLT],?_⟩
   rw[dN (f:=uV) (e:=1) arI (by omega) (aKP _) rfl rfl]
   rfl
  have wi:IntKind.i64.wrap ((i:Int)-1)=(i:Int)-1:=wrap64 (by omega) (by omega)
  rcases hr with⟨rfl,hr⟩ | ⟨rfl,TD,hr2⟩
  ·have GY:g'*val 4294967296 vs≤val 4294967296 jL:=by omega
   have WK:g'=val 4294967296 jL / val 4294967296 vs:=by
    have:=(aMR K3).2 GY
    omega
   have hse:val 4294967296 uP=val 4294967296 jL % val 4294967296 vs:=by
    have h1:=aMV (val 4294967296 jL) (val 4294967296 vs)
    rw[←WK,aLN] at h1
    omega
   obtain⟨d1,d2⟩:=digit g' WK hse
   simp only[r8',r9',awY,awG,Wy,Ws,Um,Wu,r17,(e3 g').1,(e3 g').2,wi,wrap32,aLP hgW,VX,Nat.reduceEqDiff,Nat.reduceAdd]
   exact⟨(i,IG,os.set i g'),by simp only;omega,by omega,rfl,awR,arE,by rw[aMk];exact iA,nU nI hgW,d1,d2,by (repeat' apply aL1)<;>first | rfl | trivial⟩
  ·have agN:val 4294967296 jL / val 4294967296 vs<g':=(Nat.div_lt_iff_lt_mul K3).2 TD
   have hg1:1≤g':=aMP (aKP _) agN
   obtain⟨q,rfl⟩:∃q,g'=q+1:=⟨g'-1,by omega⟩
   have WK:q=val 4294967296 jL / val 4294967296 vs:=by omega
   have hse:val 4294967296 uP=val 4294967296 jL % val 4294967296 vs:=by
    have h1:=aMV (val 4294967296 jL) (val 4294967296 vs)
    rw[←WK,aLN] at h1
    rw[aKQ,aMT] at hr2
    omega
   have wq:IntKind.u64.wrap (((q+1:Nat):Int)-1)=(q:Int):=by rw[show ((q+1:Nat):Int)-1=(q:Int) by omega];exact eT _ (by omega)
   obtain⟨d1,d2⟩:=digit q WK hse
   simp only[r8',r9',awY,awG,Wy,Ws,Um,Wu,r17,wq,(e3 q).1,(e3 q).2,wi,wrap32,aLP (show q<4294967296 by omega),VX,Nat.reduceEqDiff,Nat.reduceAdd]
   exact⟨(i,IG,os.set i q),by simp only;omega,by omega,rfl,awR,arE,by rw[aMk];exact iA,nU nI (by omega),d1,d2,by (repeat' apply aL1)<;>first | rfl | trivial⟩
 ·have XU:j=0:=by omega
  subst XU
  rw[aLx] at bF
  rw[Nat.pow_zero,aMT,aLx] at hv
  simp only[qK,k8,k9,k10,YL,Lg,B5,CY,hz,VX,Nat.reduceEqDiff,Nat.reduceAdd]
  exact hQ _ us os k8 k9 B5 TG ME iA nI hv bF
end Go.PM
namespace Go.PM
theorem PQ {a n:Nat} (hn:(aD 4294967296 a).length=n+1):∃d,(aD 4294967296 a)[n]? = some d∧d≠0∧d<4294967296:=by
 obtain⟨d,hd⟩:∃d,(aD 4294967296 a)[n]? = some d:=⟨_,aKs (by omega)⟩
 refine⟨d,hd,fun h0 => ?_,gF (by decide) a d (aLf hd)⟩
 have:=QP (b:=4294967296) (by decide) a
 rw[List.getLast?_eq_getElem?,hn,Nat.add_sub_cancel,hd,h0] at this
 exact this rfl
theorem TY {a d:Nat} (h:aD 4294967296 a=[d]):a=d∧0<d∧d<4294967296:=by
 have h1:=cI (b:=4294967296) (by decide) a
 rw[h,val_one] at h1
 obtain⟨e,h2,h3,h4⟩:=PQ (a:=a) (n:=0) (by rw[h];rfl)
 rw[h] at h2
 cases h2
 exact⟨h1.symm,by omega,h4⟩
theorem Ba (a b:Nat) (hb:b≠0) (ha:(aD 4294967296 a).length≤17592186044416) (yW:(aD 4294967296 b).length≤17592186044416):TC 183 [bN a,bN b] (.dU [bN (a / b),bN (a % b)]):=by
 refine TC.walk ⟨true,false⟩ Lk rfl (aL9 rfl) (by simp[aO,bT]) (by simp[gW,sO,tL]) ?_
 have c1:=lK a b ha yW
 by_cases IN:fW a b<0
 ·have bF:a<b:=by
   unfold fW at IN
   split at IN
   ·assumption
   ·split at IN<;>omega
  simp only[wC,sL,c1,IN,VX,Nat.reduceEqDiff,Nat.reduceAdd]
  rw[aLS bF,aLP bF]
  exact bO (d:=6) Au (aL (bT a))
 have GY:b≤a:=by
  unfold fW at IN
  split at IN
  ·omega
  ·omega
 have hbn:(aD 4294967296 b).length≠0:=fun h=>hb ((oF (b:=4294967296) (by decide)).1 (List.length_eq_zero_iff.1 h))
 by_cases h1:(((aD 4294967296 b).length:Nat):Int)=1
 ·obtain⟨d,hd⟩:∃d,aD 4294967296 b=[d]:=by
   match hx:aD 4294967296 b with
   | []=>rw[hx] at hbn;exact absurd rfl hbn
   | [d]=>exact⟨d,rfl⟩
   | _::_::_=>rw[hx] at h1;simp at h1;omega
  obtain⟨rfl,ES,hdW⟩:=TY hd
  have c2:=Ag a b ES hdW ha
  have e0:rC (bN b) []=some (VI 1):=by rw[bN,C6,eR,hd];rfl
  have e1:bJ 1 (bN b) (VI 0) []=some (.cF (uV b) 0):=by
   rw[bN,hd]
   exact aI (f:=uV) (t := .op) (H:=[]) (size:=1) (k := .i64) (xs:=[b]) (i:=0) rfl rfl
  have e2:=lS (H:=[]) (z:=[.int .u32 0]) (v:=uV (a % b)) rfl rfl rfl
  have e3:=aiW (size:=1) (v:=Value.int .u32 ((b:Nat):Int))
  simp only[wC,sL,c1,IN,e0,e1,c2,e2,VX,Nat.reduceEqDiff,Nat.reduceAdd]
  refine OJ (ds:=[a % b]) (t := .cl 1) (fun d hd => ?_) (by show 1≤70368744177664;decide) (val_one _) fun t' ht => ?_
  ·rw[List.mem_singleton] at hd
   subst hd
   exact aKn (aKN _ ES) (aK2 hdW)
  ·simp only[VX,Nat.reduceEqDiff,Nat.reduceAdd]
   exact bO (d:=6) (aL (bT _)) (agJ (d:=5) ht)
 obtain⟨n,hn⟩:∃n,(aD 4294967296 b).length=n+2:=⟨(aD 4294967296 b).length-2,by omega⟩
 obtain⟨t,ht,ht0,htW⟩:=PQ (a:=b) (n:=n+1) hn
 obtain⟨s,hs,cl,anJ⟩:=Xq ht0 htW
 have hS:0<2^s:=Nat.pow_pos (by decide)
 have hSW:2^s*2^(32-s)=4294967296:=by rw[←Nat.pow_add,show s+(32-s)=32 by omega]
 have hla:=eU (b:=4294967296) (by decide) GY
 have e0:rC (bN b) []=some (VI ((n+2:Nat):Int)):=by rw[bN,C6,eR,hn]
 have w0:IntKind.i64.wrap (((n+2:Nat):Int)-1)=((n+1:Nat):Int):=wrapN _ (by omega) (by omega)
 have h1':¬(((n+2:Nat):Int)=1):=by omega
 have e1:bJ 1 (bN b) (VI ((n+1:Nat):Int)) []=some (.cF (uV t) 0):=aI (f:=uV) (t := .op) (H:=[]) (size:=1) (k := .i64) ht rfl
 simp only[wC,sL,c1,IN,e0,h1',w0,e1,cl,VX,Nat.reduceEqDiff,Nat.reduceAdd]
 have fa:[bN a,VI (s:Int)].mapM (fz depth ([]:aA))=some [bN a,VI (s:Int)]:=fz2 (aH (bT a)) (aH rfl)
 refine FC.call (Bg a s hs ha) rfl fa ?_
 rintro r L ⟨Le,rfl,rfl,hAl,hAd,hAv,hAt⟩
 simp only[VX,Nat.reduceEqDiff,Nat.reduceAdd]
 have fb:∀H:aA,[bN b,VI (s:Int)].mapM (fz depth H)=some [bN b,VI (s:Int)]:=fun H=>fz2 (aH (bT b)) (aH rfl)
 refine FC.call (Bg b s hs yW) rfl (fb _) ?_
 rintro r L ⟨G6,rfl,rfl,hBl,hBd,hBv,hBt⟩
 rw[hn] at hBl
 simp only[hn,List.length_singleton,VX,Nat.reduceEqDiff,Nat.reduceAdd]
 have azU:b*2^s<4294967296^(n+2):=by
  have h2:=(BY (n:=n+1) (gF (b:=4294967296) (by decide) b) hn ht).2
  rw[cI (by decide)] at h2
  have h3:b*2^s<(t+1)*4294967296^(n+1)*2^s:=aMO h2 hS
  have h4:(t+1)*4294967296^(n+1)*2^s=(t+1)*2^s*4294967296^(n+1):=by grind
  have h5:(t+1)*2^s≤4294967296:=by
   have h6:t*2^s<2^(32-s)*2^s:=by rw[aLN (2^(32-s)),hSW];exact anJ
   have h7:=aMm h6
   have h8:(t+1)*2^s≤2^(32-s)*2^s:=aKM _ h7
   rwa [aLN (2^(32-s)),hSW] at h8
  have h9:(t+1)*2^s*4294967296^(n+1)≤4294967296*4294967296^(n+1):=aKM _ h5
  have h10:4294967296*4294967296^(n+1)=4294967296^(n+2):=by rw[aLM 4294967296 (n+1)];exact aLN _ _
  omega
 have hVl:(aD 4294967296 (b*2^s)).length=n+2:=by
  have h2:=oN (b:=4294967296) (by decide) azU
  have h3:b≤b*2^s:=Nat.le_mul_of_pos_right b hS
  have h4:=eU (b:=4294967296) (by decide) h3
  omega
 refine vC (rows:=G6) (m:=b*2^s) (by rfl) (by omega) (by omega) (by omega) (fun d hd=>hBd d (aLi hd)) (by rw[aLe (by omega)];exact hBv) fun k hk he => ?_
 have Zd:k=n+2:=by
  have:=congrArg List.length he
  rw[hVl,aLU] at this
  omega
 subst Zd
 generalize TE:aD 4294967296 (b*2^s)=vs at *
 have IZ:∀d∈vs,d<4294967296:=by rw[←TE];exact gF (by decide) _
 have Qp:val 4294967296 vs=b*2^s:=by rw[←TE];exact cI (by decide) _
 obtain⟨v1,f1⟩:∃v1,vs[n+1]? = some v1:=⟨_,aKs (by omega)⟩
 obtain⟨v0,f0⟩:∃v0,vs[n]? = some v0:=⟨_,aKs (by omega)⟩
 have hv1:1≤v1:=by
  obtain⟨d,hd,ES,_⟩:=PQ (a:=b*2^s) (n:=n+1) (by rw[TE];exact hVl)
  rw[TE,f1] at hd
  cases hd
  omega
 have b1:G6[n+1]? = some v1:=by rw[←f1,←he,aKI (by omega)]
 have b0:G6[n]? = some v0:=by rw[←f0,←he,aKI (by omega)]
 have lv1:=IZ v1 (aLf f1)
 have lv0:=IZ v0 (aLf f0)
 have x1:bJ 1 (.ref 1 0 0 (n+2) (n+2+1)) (VI ((n+1:Nat):Int)) [.row 0 (Le.map uV) 1 true,.row 0 (G6.map uV) 1 true]=some (.ptr 1 0 (n+1) 0):=by rw[bA (by rfl) (by omega),aLT]
 have x0:bJ 1 (.ref 1 0 0 (n+2) (n+2+1)) (VI ((n:Nat):Int)) [.row 0 (Le.map uV) 1 true,.row 0 (G6.map uV) 1 true]=some (.ptr 1 0 n 0):=by rw[bA (by rfl) (by omega),aLT]
 have y1:bI false 1 (.ptr 1 0 (n+1) 0) [.row 0 (Le.map uV) 1 true,.row 0 (G6.map uV) 1 true]=some (uV v1):=kB (rows:=G6) (g:=0) (w:=true) (by rfl) b1
 have y0:bI false 1 (.ptr 1 0 n 0) [.row 0 (Le.map uV) 1 true,.row 0 (G6.map uV) 1 true]=some (uV v0):=kB (rows:=G6) (g:=0) (w:=true) (by rfl) b0
 have z0:rC (.ref 1 0 0 (n+2) (n+2+1)) [.row 0 (Le.map uV) 1 true,.row 0 (G6.map uV) 1 true]=some (VI ((n+2:Nat):Int)):=eK (r:=(G6.map uV,1,true)) (by rfl)
 have z1:rC (.ref 0 0 0 ((aD 4294967296 a).length+1) ((aD 4294967296 a).length+1)) [.row 0 (Le.map uV) 1 true,.row 0 (G6.map uV) 1 true]=some (VI (((aD 4294967296 a).length+1:Nat):Int)):=eK (r:=(Le.map uV,1,true)) (by rfl)
 have w2:IntKind.i64.wrap (((n+2:Nat):Int)-2)=((n:Nat):Int):=wrapN _ (by omega) (by omega)
 have wv1:IntKind.u64.wrap (v1:Int)=(v1:Int):=eT _ (by omega)
 have wv0:IntKind.u64.wrap (v0:Int)=(v0:Int):=eT _ (by omega)
 obtain⟨m,hm⟩:∃m,m+(n+2)=(aD 4294967296 a).length+1:=⟨(aD 4294967296 a).length+1-(n+2),by omega⟩
 have wm:IntKind.i64.wrap ((((aD 4294967296 a).length+1:Nat):Int)-((n+2:Nat):Int))=(m:Int):=wrapN _ (by omega) (by omega)
 have wm1:IntKind.i64.wrap ((m:Int)-1)=(m:Int)-1:=wrap64 (by omega) (by omega)
 have mk:=Z6 m 0 (by omega) (H:=[.row 0 (Le.map uV) 1 true,.row 0 (G6.map uV) 1 true])
 have z2:rC (.ref 2 0 0 m m) (H3 Le G6 (aLb m 0))=some (VI m):=eK (r:=((aLb m 0).map uV,1,true)) (by rfl)
 simp only[w0,x1,x0,y1,y0,z0,z1,w2,wv1,wv0,wm,mk,z2,wm1,List.length_cons,List.length_nil,VX,Nat.reduceEqDiff,Nat.reduceAdd]
 have El:val 4294967296 (Le.drop m)<val 4294967296 vs:=by
  obtain⟨d,hd⟩:∃d,Le[(aD 4294967296 a).length]? = some d:=⟨_,aKs (by omega)⟩
  have h2:=(BY (b:=4294967296) (xs:=Le.drop m) (n:=n+1) (t:=d) (fun x hx=>hAd x (aLj hx)) (by rw[aMK];omega) (by rw[aKj,show m+(n+1)=(aD 4294967296 a).length by omega];exact hd)).2
  have h3:=hAt d hd
  have h4:=(BY (n:=n+1) (gF (b:=4294967296) (by decide) b) hn ht).1
  rw[cI (by decide)] at h4
  have h5:(d+1)*4294967296^(n+1)≤2^s*4294967296^(n+1):=aKM _ h3
  have h6:1*4294967296^(n+1)≤t*4294967296^(n+1):=aKM _ (by omega)
  have h7:1*4294967296^(n+1)*2^s≤b*2^s:=aKM _ (by omega)
  rw[Qp]
  rw[aMT,aLN] at h7
  omega
 refine akU (G5:=Le) (ws:=G6) (os0:=aLb m 0) (vs:=vs) (N:=(aD 4294967296 a).length+1) (m:=m) (n:=n) (A:=a*2^s) (s:=s) hAl hm (by omega) hAd he hBl hVl IZ f1 f0 hv1 hAv El (by simp) (Cx (by decide) _) (by rfl) (by rfl) (by rfl) (by rfl) (by rfl) (by rfl) (by rfl) ?_
 intro AH us os r8 r9 r13 TG ME iA nI hv bF
 rw[Qp] at hv bF
 have hq:val 4294967296 os=a / b:=by
  rw[←Nat.mul_div_mul_right a b hS,←hv,aML _ _ (by omega),aLS bF,aLT]
 have hr:val 4294967296 us=a % b*2^s:=by
  rw[←Nat.mul_mod_mul_right,←hv,aMM,aLP bF]
 simp only[r9,VX,Nat.reduceEqDiff,Nat.reduceAdd]
 refine vC (rows:=us) (m:=a % b*2^s) EV (by omega) (aKl _) (by omega) (fun d hd=>ME d (aLi hd)) (by rw[aLe (by omega)];exact hr) fun k hk he2 => ?_
 have z3:rC (.ref 0 0 0 k ((aD 4294967296 a).length+1)) (H3 us G6 os)=some (VI k):=eK EV
 simp only[z3,VX,Nat.reduceEqDiff,Nat.reduceAdd]
 refine adL (us:=us) (k:=k) (N:=(aD 4294967296 a).length+1) (s:=s) (w0:=2^(32-s)) hs hSW TG hk (by omega) ME r8 (by rfl) (by rfl) (by rfl) ?_
 intro tG IG q9 q13 awR arE hv'
 have aEu:tG 13 = .ref 2 0 0 m m:=q13.trans r13
 have E0:val 4294967296 (IG.take k)=a % b:=by
  rw[hv',he2,cI (by decide),Nat.mul_div_cancel _ hS]
 simp only[q9,aEu,VX,Nat.reduceEqDiff,Nat.reduceAdd]
 refine vC (rows:=os) (m:=a / b) arI (by omega) (aKl _) (by omega) (fun d hd=>nI d (aLi hd)) (by rw[aLe (by omega)];exact hq) fun k2 Zd he3 => ?_
 simp only[q9,VX,Nat.reduceEqDiff,Nat.reduceAdd]
 refine vC (rows:=IG) (m:=a % b) EV (by omega) hk (by omega) (fun d hd=>arE d (aLi hd)) E0 fun k3 hk3 he4 => ?_
 simp only[VX,Nat.reduceEqDiff,Nat.reduceAdd]
 exact bO (d:=6) (Nn (d:=5) arI (by omega) Zd he3) (Nn (d:=5) EV (by omega) (by omega) he4)
end Go.PM
namespace Go.PM
abbrev H2 (us os:List Nat):aA:=[.row 0 (us.map tV) 1 true,.row 0 (os.map tV) 1 true]
theorem YE {us os:List Nat}:aG (H2 us os) 0 0=some (us.map tV,1,true):=rfl
theorem aBR {us os:List Nat}:aG (H2 us os) 1 0=some (os.map tV,1,true):=rfl
theorem atO {P a Z:Nat} {y:Int} (h:(a:Int)+(P:Int)*y=(Z:Int)) (ha:a<P) (hZ:Z<P):y=0∧a=Z:=by
 have hy:y=0:=by
  rcases Int.lt_trichotomy y 0 with h1 | h1 | h1
  ·have:(P:Int)*y≤(P:Int)*(-1):=aMW (by omega) (by omega)
   omega
  ·exact h1
  ·have:(P:Int)*1≤(P:Int)*y:=aMW (by omega) (by omega)
   omega
 subst hy
 rw[Int.mul_zero] at h
 exact⟨rfl,by omega⟩
theorem XD {us:List Nat} {i n N V:Nat} (hN:us.length=N) (bX:i+n<N) (hd:∀d∈us,d<1000000000) (hV:V<1000000000^n) (El:val 1000000000 (us.drop (i+1))<V) :
  us=us.take i++(us.drop i).take (n+1)++us.drop (i+(n+1))∧(us.take i).length=i∧((us.drop i).take (n+1)).length=n+1∧val 1000000000 ((us.drop i).take (n+1))<1000000000*V∧val 1000000000 (us.drop i)=val 1000000000 ((us.drop i).take (n+1))∧val 1000000000 (us.drop (i+(n+1)))=0∧∀j,j<n+1→((us.drop i).take (n+1))[j]? = us[i+j]? := by
 obtain⟨x,hx⟩:∃x,us[i]? = some x:=⟨_,aKs (by omega)⟩
 have lx:=hd x (aLf hx)
 have h1:=wT (b:=1000000000) hx
 have h2:val 1000000000 (us.drop i)<1000000000*V:=by
  have:1000000000*(val 1000000000 (us.drop (i+1))+1)≤1000000000*V:=aMl _ El
  omega
 have h3:=sQ (b:=1000000000) (us.drop i) (n+1)
 have h4:((us.drop i).take (n+1)).length=n+1:=by rw[aLU,aMK];omega
 rw[h4,aLl] at h3
 have h5:val 1000000000 (us.drop (i+(n+1)))=0:=by
  rcases Nat.eq_zero_or_pos (val 1000000000 (us.drop (i+(n+1)))) with h | h
  ·exact h
  ·have h6:1000000000^(n+1)*1≤1000000000^(n+1)*val 1000000000 (us.drop (i+(n+1))):=aMl _ h
   have h7:1000000000*V≤1000000000^(n+1):=by rw[aLM,aLN];exact aKM _ (by omega)
   omega
 rw[h5,aMz,aMA] at h3
 refine⟨?_,by rw[aLU];omega,h4,by omega,h3,h5,fun j hj => ?_⟩
 ·rw[aL7,←aLl,aLu,aLu]
 ·rw[aKI hj,aKj]
theorem leT {g:Nat} (h:(1000000000:Int)≤(g:Int)):1000000000≤g:=by omega
theorem ahU {g:Nat} (h:¬(1000000000:Int)≤(g:Int)):g<1000000000:=by omega
theorem ltC {a b:Nat} (h:(a:Int)<(b:Int)):a<b:=by omega
theorem aE4 {a b:Nat} (h:¬(a:Int)<(b:Int)):b≤a:=by omega
theorem QY {a:Nat} (h:a*1000000000≤9223372036854775807):IntKind.i64.wrap ((a:Int)*1000000000)=((a*1000000000:Nat):Int):=wrapN _ (by omega) h
theorem Ri {a b:Nat} (h:a+b≤9223372036854775807):IntKind.i64.wrap ((a:Int)+(b:Int))=((a+b:Nat):Int):=wrapN _ (by omega) h
theorem aeT {a b:Nat} (h:a*b≤9223372036854775807):IntKind.i64.wrap ((a:Int)*(b:Int))=((a*b:Nat):Int):=wrapN _ (by simp) h
theorem x17 {a:Nat} (h:a<1000000000):a*1000000000≤9223372036854775807:=by omega
theorem x18 {a b:Nat} (h:a<1000000000) (hb:b<1000000000):a*1000000000+b≤1000000000000000000:=by omega
theorem UN {jL vs us os:List Nat} {n u2 u1 u0 v1 v0 N i g left:Nat} (G:Af 1000000000 jL vs n u2 u1 u0 v1 v0) {ρ:cT} {Q:VQ} (hN:us.length=N) (hiN:i+(n+2)<N) (F1:N≤70368744177664) (hu0:us[i+n]? = some u0)
  (g13:ρ 13 = .ref 0 0 0 N N) (g14:ρ 14=jJ vs) (g15:ρ 15=VI ((n+2:Nat):Int)) (g17:ρ 17=VI i) (g19:ρ 19=VI g) (g20:ρ 20=VI left) (hh:u2*1000000000+u1=g*v1+left) (hq:val 1000000000 jL / val 1000000000 vs≤g) (hl:left<1000000000) (hgb:g≤1000000000000000000)
  (hQ:∀(aP:cT) (g':Nat),val 1000000000 jL / val 1000000000 vs≤g'→g'≤val 1000000000 jL / val 1000000000 vs+1→g'<1000000000→aP 19=VI g'→aP 12=ρ 12→aP 13=ρ 13→aP 14=ρ 14→aP 15=ρ 15→aP 16=ρ 16→aP 17=ρ 17→Q (.exit 2) aP (H2 us os)) :
  VW ⟨true,false⟩ 0 (.loop iC) Q ρ (H2 us os):=by
 have lv1:=G.Z7
 have lv0:=G.aiN
 have lu0:=G.avG
 have qlt:=G.aqM
 have lR:=G.pos
 have G7:=G.PA
 refine aR (fun(t:Nat×Nat) aP H=>H=H2 us os∧u2*1000000000+u1=t.1*v1+t.2∧val 1000000000 jL / val 1000000000 vs≤t.1∧t.2<1000000000∧t.1≤1000000000000000000 ∧
  aP 13 = .ref 0 0 0 N N∧aP 14=jJ vs∧aP 15=VI ((n+2:Nat):Int)∧aP 17=VI i∧aP 19=VI t.1∧aP 20=VI t.2∧aP 12=ρ 12∧aP 16=ρ 16) (fun t=>1000000000-t.2) (g,left) ⟨rfl,hh,hq,hl,hgb,g13,g14,g15,g17,g19,g20,rfl,rfl⟩ ?_
 rintro⟨g,left⟩ tG H ⟨rfl,hh,hq,hl,hgb,B5,CY,Nh,Iw,k19,k20,Lg,k16⟩
 simp only at hh hq hl hgb k19 k20
 have f1:bJ 1 (jJ vs) (VI ((n+1:Nat):Int)) (H2 us os)=some (.cF (tV v1) 0):=aI (f:=tV) (t := .op) (size:=1) (k := .i64) G.f1 rfl
 have f0:bJ 1 (jJ vs) (VI (n:Int)) (H2 us os)=some (.cF (tV v0) 0):=aI (f:=tV) (t := .op) (size:=1) (k := .i64) G.f0 rfl
 have wn2:IntKind.i64.wrap (((n+2:Nat):Int)-2)=(n:Int):=wrapN _ (by omega) (by omega)
 have wn1:IntKind.i64.wrap (((n+2:Nat):Int)-1)=((n+1:Nat):Int):=wrapN _ (by omega) (by omega)
 have wi:IntKind.i64.wrap ((i:Int)+((n+2:Nat):Int))=((i+(n+2):Nat):Int):=wrapN _ (by omega) (by omega)
 have wi2:IntKind.i64.wrap (((i+(n+2):Nat):Int)-2)=((i+n:Nat):Int):=wrapN _ (by omega) (by omega)
 have e1:bJ 1 (.ref 0 0 0 N N) (VI ((i+n:Nat):Int)) (H2 us os)=some (.ptr 0 0 (i+n) 0):=by rw[bA YE (by omega),aLT]
 have e2:bI false 1 (.ptr 0 0 (i+n) 0) (H2 us os)=some (VI (u0:Int)):=Pq YE hu0
 have wl:IntKind.i64.wrap ((left:Int)+(v1:Int))=((left+v1:Nat):Int):=wrapN _ (by omega) (by omega)
 have down:val 1000000000 jL / val 1000000000 vs<g→∃g',g=g'+1∧IntKind.i64.wrap ((g:Int)-1)=(g':Int)∧u2*1000000000+u1=g'*v1+(left+v1)∧val 1000000000 jL / val 1000000000 vs≤g':=by
  intro h
  have hg1:1≤g:=aMP (aKP _) h
  obtain⟨g',rfl⟩:∃g',g=g'+1:=⟨g-1,by omega⟩
  refine⟨g',rfl,wrapN _ (by omega) (by omega),?_,by omega⟩
  rw[hh,aKQ]
  omega
 have hmu:∀g':Nat,left+v1<1000000000→1000000000-(g',left+v1).2<1000000000-(g,left).2:=fun g' h=>by
  show 1000000000-(left+v1)<1000000000-left
  omega
 have hle:∀g':Nat,g=g'+1→g'≤1000000000000000000:=fun g' h=>by
  omega
 have aDU:left*1000000000+u0≤9223372036854775807:=aKm (x18 hl lu0) (by decide)
 have aEM:left*1000000000≤9223372036854775807:=x17 hl
 have ws:IntKind.i64.wrap ((left:Int)*1000000000)=((left*1000000000:Nat):Int):=QY aEM
 have wa:IntKind.i64.wrap (((left*1000000000:Nat):Int)+(u0:Int))=((left*1000000000+u0:Nat):Int):=Ri aDU
 obtain⟨s13,s14,s15,s17⟩:tG 13=ρ 13∧tG 14=ρ 14∧tG 15=ρ 15∧tG 17=ρ 17:=⟨by rw[B5,g13],by rw[CY,g14],by rw[Nh,g15],by rw[Iw,g17]⟩
 by_cases hA:(1000000000:Int)≤(g:Int)
 ·have hA':=leT hA
  obtain⟨g',hg',wg,W6,Ob⟩:=down (aKn qlt hA')
  by_cases hB:(1000000000:Int)≤((left+v1:Nat):Int)
  ·obtain⟨c1,c2⟩:=G.broken W6 (leT hB)
   simp only[iC,B5,CY,Nh,Iw,k19,k20,hA,hB,f1,wn1,wg,wl,VX,Nat.reduceEqDiff,Nat.reduceAdd]
   exact hQ _ g' Ob (G.abL W6 (aK2 c1) c2) c1 rfl Lg s13 s14 s15 k16 s17
  ·simp only[iC,B5,CY,Nh,Iw,k19,k20,hA,hB,f1,wn1,wg,wl,VX,Nat.reduceEqDiff,Nat.reduceAdd]
   refine⟨(g',left+v1),hmu g' (ahU hB),W6,Ob,ahU hB,hle g' hg',?_⟩
   exact⟨rfl,rfl,Lg,k16⟩
 ·have hA':=ahU hA
  have hgv:g*v0≤999999999*999999999:=aMC (Nat.le_of_lt_succ hA') (Nat.le_of_lt_succ lv0)
  have wm:IntKind.i64.wrap ((g:Int)*(v0:Int))=((g*v0:Nat):Int):=aeT (aKm hgv (by decide))
  by_cases hT:((left*1000000000+u0:Nat):Int)<((g*v0:Nat):Int)
  ·obtain⟨g',hg',wg,W6,Ob⟩:=down (G.too hh (ltC hT))
   by_cases hB:(1000000000:Int)≤((left+v1:Nat):Int)
   ·obtain⟨c1,c2⟩:=G.broken W6 (leT hB)
    simp only[iC,B5,CY,Nh,Iw,k19,k20,hA,hB,hT,f1,f0,e1,e2,wn1,wn2,wi,wi2,ws,wa,wm,wg,wl,VX,Nat.reduceEqDiff,Nat.reduceAdd]
    exact hQ _ g' Ob (G.abL W6 (aK2 c1) c2) c1 rfl Lg s13 s14 s15 k16 s17
   ·simp only[iC,B5,CY,Nh,Iw,k19,k20,hA,hB,hT,f1,f0,e1,e2,wn1,wn2,wi,wi2,ws,wa,wm,wg,wl,VX,Nat.reduceEqDiff,Nat.reduceAdd]
    refine⟨(g',left+v1),hmu g' (ahU hB),W6,Ob,ahU hB,hle g' hg',?_⟩
    exact⟨rfl,rfl,Lg,k16⟩
  ·simp only[iC,B5,CY,Nh,Iw,k19,k20,hA,hT,f0,e1,e2,wn2,wi,wi2,ws,wa,wm,VX,Nat.reduceEqDiff,Nat.reduceAdd]
   exact hQ _ g hq (G.abL hh (aK2 hA') (aE4 hT)) hA' k19 Lg s13 s14 s15 k16 s17
theorem R3 {G5 os0 vs:List Nat} {N m n v1 v0 A s:Nat} {ρ:cT} {Q:VQ} (hN:G5.length=N) (hm:m+(n+2)=N) (F1:N≤70368744177664) (ME:∀d∈G5,d<1000000000) (G7:vs.length=n+2) (IZ:∀d∈vs,d<1000000000) (f1:vs[n+1]? = some v1) (f0:vs[n]? = some v0) (lR:1≤v1)
  (hA:val 1000000000 G5=A) (El:val 1000000000 (G5.drop m)<val 1000000000 vs) (iA:os0.length=m) (nI:∀d∈os0,d<1000000000)
  (g12:ρ 12=VI s) (g13:ρ 13 = .ref 0 0 0 N N) (g14:ρ 14=jJ vs) (g15:ρ 15=VI ((n+2:Nat):Int)) (g16:ρ 16 = .ref 1 0 0 m m) (g17:ρ 17=VI ((m:Int)-1))
  (hQ:∀(aP:cT) (us os:List Nat),aP 12=VI s→aP 13 = .ref 0 0 0 N N→aP 16 = .ref 1 0 0 m m→us.length=N→(∀d∈us,d<1000000000)→os.length=m→(∀d∈os,d<1000000000)→val 1000000000 us+val 1000000000 vs*val 1000000000 os=A→val 1000000000 us<val 1000000000 vs→Q (.exit 0) aP (H2 us os)) :
  VW ⟨true,false⟩ 0 (.loop kA) Q ρ (H2 G5 os0):=by
 have hVb:=rI IZ
 rw[G7] at hVb
 refine aR (fun(t:Nat×List Nat×List Nat) aP H=>t.1≤m∧H=H2 t.2.1 t.2.2∧t.2.1.length=N∧(∀d∈t.2.1,d<1000000000)∧t.2.2.length=m∧(∀d∈t.2.2,d<1000000000)∧val 1000000000 (t.2.1.drop t.1)<val 1000000000 vs∧val 1000000000 t.2.1+1000000000^t.1*val 1000000000 vs*val 1000000000 (t.2.2.drop t.1)=A ∧
  aP 12=VI s∧aP 13 = .ref 0 0 0 N N∧aP 14=jJ vs∧aP 15=VI ((n+2:Nat):Int)∧aP 16 = .ref 1 0 0 m m∧aP 17=VI ((t.1:Int)-1)) (fun t=>t.1) (m,G5,os0) ⟨aKl _,rfl,hN,ME,iA,nI,El,by rw[aMe (by simp only;omega)];simpa[val] using hA,g12,g13,g14,g15,g16,g17⟩ ?_
 rintro⟨j,us,os⟩ tG H ⟨hj,rfl,TG,ME,iA,nI,bF,hv,Lg,B5,CY,Nh,k16,Iw⟩
 simp only at hj TG ME iA nI bF hv Iw
 by_cases hz:(0:Int)≤(j:Int)-1
 ·obtain⟨i,rfl⟩:∃i,j=i+1:=⟨j-1,by omega⟩
  have DV:((i+1:Nat):Int)-1=(i:Int):=by omega
  rw[DV] at Iw hz
  obtain⟨XH,Dc,S7,hsW,ahK,agK,xU⟩:=XD (n:=n+2) TG (by omega) ME hVb bF
  generalize adG:(us.drop i).take (n+2+1)=jL at *
  have SM:∀d∈jL,d<1000000000:=fun d hd=>by rw[←adG] at hd;exact ME d (aLj (aLi hd))
  obtain⟨u2,hu2⟩:∃u2,us[i+(n+2)]? = some u2:=⟨_,aKs (by omega)⟩
  obtain⟨u1,hu1⟩:∃u1,us[i+(n+1)]? = some u1:=⟨_,aKs (by omega)⟩
  obtain⟨u0,hu0⟩:∃u0,us[i+n]? = some u0:=⟨_,aKs (by omega)⟩
  have G:Af 1000000000 jL vs n u2 u1 u0 v1 v0:=⟨by decide,SM,IZ,S7,G7,by rw[xU _ (by omega)];exact hu2,by rw[xU _ (by omega)];exact hu1,by rw[xU _ (by omega)];exact hu0,f1,f0,lR,hsW⟩
  have lu2:=G.auO
  have lu1:=G.agU
  have lv1:=G.Z7
  have qlt:=G.aqM
  have K3:=G.K3
  have w1:IntKind.i64.wrap ((i:Int)+((n+2:Nat):Int))=((i+(n+2):Nat):Int):=wrapN _ (by omega) (by omega)
  have w2:IntKind.i64.wrap (((i+(n+2):Nat):Int)-1)=((i+(n+1):Nat):Int):=wrapN _ (by omega) (by omega)
  have wn1:IntKind.i64.wrap (((n+2:Nat):Int)-1)=((n+1:Nat):Int):=wrapN _ (by omega) (by omega)
  have ev1:bJ 1 (jJ vs) (VI ((n+1:Nat):Int)) (H2 us os)=some (.cF (tV v1) 0):=aI (f:=tV) (t := .op) (size:=1) (k := .i64) f1 rfl
  have e2:bJ 1 (.ref 0 0 0 N N) (VI ((i+(n+2):Nat):Int)) (H2 us os)=some (.ptr 0 0 (i+(n+2)) 0):=by rw[bA YE (by omega),aLT]
  have e1:bJ 1 (.ref 0 0 0 N N) (VI ((i+(n+1):Nat):Int)) (H2 us os)=some (.ptr 0 0 (i+(n+1)) 0):=by rw[bA YE (by omega),aLT]
  have l2:bI false 1 (.ptr 0 0 (i+(n+2)) 0) (H2 us os)=some (VI (u2:Int)):=Pq YE hu2
  have l1:bI false 1 (.ptr 0 0 (i+(n+1)) 0) (H2 us os)=some (VI (u1:Int)):=Pq YE hu1
  have aEJ:u2*1000000000+u1≤1000000000000000000:=x18 lu2 lu1
  have aDB:u2*1000000000≤9223372036854775807:=x17 lu2
  have aBx:u2*1000000000+u1≤9223372036854775807:=aKm aEJ (by decide)
  have ws2:IntKind.i64.wrap ((u2:Int)*1000000000)=((u2*1000000000:Nat):Int):=QY aDB
  have wa:IntKind.i64.wrap (((u2*1000000000:Nat):Int)+(u1:Int))=((u2*1000000000+u1:Nat):Int):=Ri aBx
  have q1:=No (u2*1000000000+u1) v1 aBx lR
  have q2:=NL (u2*1000000000+u1) v1 lR
  simp only[kA,Lg,B5,CY,Nh,k16,Iw,hz,w1,w2,wn1,ev1,e1,e2,l1,l2,ws2,wa,q1,q2,VX,Nat.reduceEqDiff,Nat.reduceAdd]
  clear ws2 wa q1 q2 e1 e2 l1 l2 ev1 w1 w2 wn1
  have hh:=aMn (u2*1000000000+u1) v1
  have hml:=aKN (u2*1000000000+u1) lR
  have hdl:(u2*1000000000+u1) / v1≤u2*1000000000+u1:=aMQ _ _
  have TJ:val 1000000000 jL / val 1000000000 vs≤(u2*1000000000+u1) / v1:=by
   have t1:=(FH (n:=n+1) (xs:=jL) SM (by omega) (by rw[xU _ (by omega)];exact hu2) (by rw[xU _ (by omega)];exact hu1)).2
   have t2:=(BY (n:=n+1) IZ G7 f1).1
   rw[aMR lR]
   have t3:val 1000000000 jL / val 1000000000 vs*(v1*1000000000^(n+1))≤val 1000000000 jL / val 1000000000 vs*val 1000000000 vs:=aMl _ t2
   have t4:=aMS (val 1000000000 jL) (val 1000000000 vs)
   have t5:val 1000000000 jL / val 1000000000 vs*v1*1000000000^(n+1)<(u2*1000000000+u1+1)*1000000000^(n+1):=by rw[aMx];omega
   have:=aMm t5
   omega
  generalize hQ1:(u2*1000000000+u1) / v1=g0 at *
  generalize hQ2:(u2*1000000000+u1) % v1=l0 at *
  refine UN (i:=i) G TG (by omega) F1 hu0 B5 CY Nh Iw (by rfl) (by rfl) (by rw[aLN g0];omega) TJ (by omega) (by omega) ?_
  intro wB g' hq Ob hgW r19 r12 r13 r14 r15 r16 r17
  have Wy:wB 12=VI s:=r12.trans Lg
  have Ws:wB 13 = .ref 0 0 0 N N:=r13.trans B5
  have Um:wB 14=jJ vs:=r14.trans CY
  have Wu:wB 15=VI ((n+2:Nat):Int):=r15.trans Nh
  have aqN:wB 16 = .ref 1 0 0 m m:=r16.trans k16
  have arZ:wB 17=VI i:=r17.trans Iw
  simp only[Wy,Ws,Um,Wu,aqN,arZ,r19,VX,Nat.reduceEqDiff,Nat.reduceAdd]
  have xB:g'*val 1000000000 vs≤val 1000000000 jL+val 1000000000 vs:=by
   have:=aKM (val 1000000000 vs) Ob
   rw[aKQ,aMT] at this
   have:=aMS (val 1000000000 jL) (val 1000000000 vs)
   omega
  obtain⟨low,ayZ⟩:∃low,low=jL.take (n+2):=⟨_,rfl⟩
  have hll:low.length=n+2:=by rw[ayZ,aLU];omega
  have hld:∀d∈low,d<1000000000:=fun d hd=>SM d (by rw[ayZ] at hd;exact aLi hd)
  have hsg:jL=low++[u2]:=by
   have h1:jL[n+2]? = some u2:=by rw[xU _ (by omega)];exact hu2
   have h2:=aLu (n+2) jL
   have h3:=(aKk.1 h1)
   rw[List.drop_eq_getElem_cons h3.1,h3.2,aMe (by omega),←ayZ] at h2
   exact h2.symm
  have TE:val 1000000000 jL=val 1000000000 low+1000000000^(n+2)*u2:=by rw[hsg,wM,hll]
  have lX:∀(lw:List Nat) (t:Nat),(us.take i).map tV++lw.map tV++VI (t:Int)::(us.drop (i+(n+2+1))).map tV=(us.take i++(lw++[t])++us.drop (i+(n+2+1))).map tV:=fun lw t=>by simp
  have Kd:aG (H2 us os) 0 0=some ((us.take i).map tV++low.map tV++VI (u2:Int)::(us.drop (i+(n+2+1))).map tV,1,true):=by
   rw[lX,←hsg,←XH]
   rfl
  refine fS rfl ((aeX (o:=i) (n:=n+2) Kd (aKP _) (by simpa using Dc) hll G7 (by omega) F1 hld IZ hgW lu2).mono ?_)
  rintro r H' ⟨Dn,c,rfl,EZ,hd',hc,hr,hE⟩
  have aGD:val 1000000000 low<1000000000^(n+2):=by have:=rI hld;rwa [hll] at this
  have aEs:val 1000000000 Dn<1000000000^(n+2):=by have:=rI hd';rwa [EZ] at this
  have rows:∀(lw:List Nat) (t q:Nat),lw.length=n+2→(∀d∈lw,d<1000000000)→t<1000000000→q=val 1000000000 jL / val 1000000000 vs→val 1000000000 lw+1000000000^(n+2)*t=val 1000000000 jL % val 1000000000 vs →
    ((us.take i++(lw++[t])++us.drop (i+(n+2+1))).length=N∧(∀d∈us.take i++(lw++[t])++us.drop (i+(n+2+1)),d<1000000000)∧val 1000000000 ((us.take i++(lw++[t])++us.drop (i+(n+2+1))).drop i)<val 1000000000 vs∧val 1000000000 (us.take i++(lw++[t])++us.drop (i+(n+2+1)))+1000000000^i*val 1000000000 vs*val 1000000000 ((os.set i q).drop i)=A):=by
   intro lw t q hlw aFh ht WK hse
   have atW:val 1000000000 (lw++[t])=val 1000000000 jL % val 1000000000 vs:=by rw[wM,hlw];exact hse
   have aE5:(lw++[t]).length=n+3:=by rw[aKw,hlw];rfl
   have aEy:∀d∈lw++[t],d<1000000000:=fun d hd=>by
    rcases aLh.1 hd with h | h
    ·exact aFh d h
    ·rw[List.mem_singleton.1 h];exact ht
   generalize lw++[t]=uP at *
   have arB:=aKN (val 1000000000 jL) K3
   have Xs:(us.take i++uP++us.drop (i+(n+2+1))).drop i=uP++us.drop (i+(n+2+1)):=by rw[aL7,List.drop_append,aMe (by omega),Dc];simp
   have Xh:(us.take i++uP++us.drop (i+(n+2+1))).take i=us.take i:=by rw[aL7,aMU (by omega),aLe (by omega)]
   have Uo:val 1000000000 ((us.take i++uP++us.drop (i+(n+2+1))).drop i)=val 1000000000 uP:=by rw[Xs,Bw,agK,aMz,aMA]
   refine⟨by rw[aKw,aKw,Dc,aE5,aMK];omega,fun d hd => ?_,by rw[Uo,atW];exact arB,?_⟩
   ·rw[aLh,aLh] at hd
    rcases hd with(hd | hd) | hd
    ·exact ME d (aLi hd)
    ·exact aEy d hd
    ·exact ME d (aLj hd)
   ·have h1:=aMV (val 1000000000 jL) (val 1000000000 vs)
    rw[←WK,←atW,aLN] at h1
    have h2:=sQ (b:=1000000000) us i
    have h3:=sQ (b:=1000000000) (us.take i++uP++us.drop (i+(n+2+1))) i
    rw[Xh,Dc,Uo] at h3
    rw[Dc,ahK] at h2
    rw[set_drop (by omega),vI,h3]
    rw[h2,aLM] at hv
    exact Ox h1.symm hv
  have e3:∀(IG:List Nat) (d:Nat),bJ 1 (.ref 1 0 0 m m) (VI i) (H2 IG os)=some (.ptr 1 0 i 0)∧bK 0 1 (.ptr 1 0 i 0) (VI (d:Int)) (H2 IG os)=some (H2 IG (os.set i d)):=fun IG d=>by
   refine⟨by rw[bA aBR (by omega),aLT],?_⟩
   rw[show VI (d:Int)=tV d from rfl,dN (f:=tV) (e:=1) aBR (by omega) (aKP _) rfl rfl]
   rfl
  have wi:IntKind.i64.wrap ((i:Int)-1)=(i:Int)-1:=wrap64 (by omega) (by omega)
  have hdm:=aMV (val 1000000000 jL) (val 1000000000 vs)
  have arB:=aKN (val 1000000000 jL) K3
  generalize hPP:1000000000^(n+2)=P at *
  by_cases jV:(u2:Int)-(c:Int)<0
  ·
   rw[decide_eq_true jV] at hr
   subst hr
   have hgt:val 1000000000 jL<g'*val 1000000000 vs:=by
    have h1:P*(u2+1)≤P*c:=aMl _ (by omega)
    rw[aMI,Nat.mul_one] at h1
    omega
   have WK:g'=val 1000000000 jL / val 1000000000 vs+1:=by
    rcases Nat.lt_or_ge (val 1000000000 jL / val 1000000000 vs) g' with h | h
    ·omega
    ·have h1:g'*val 1000000000 vs≤val 1000000000 jL / val 1000000000 vs*val 1000000000 vs:=aKM _ h
     have:=aMS (val 1000000000 jL) (val 1000000000 vs)
     omega
   have hg1:1≤g':=by rw[WK];exact Nat.le_add_left 1 _
   have wg:IntKind.i64.wrap ((g':Int)-1)=((g'-1:Nat):Int):=wrapN _ (by omega) (by omega)
   simp only[Wy,Ws,Um,Wu,aqN,arZ,r19,wg,VX,Nat.reduceEqDiff,Nat.reduceAdd]
   have TD:aG ((H2 us os).set 0 (.row 0 ((us.take i).map tV++Dn.map tV++VI ((u2:Int)-(c:Int))::(us.drop (i+(n+2+1))).map tV) 1 true)) 0 0=some ((us.take i).map tV++Dn.map tV++VI ((u2:Int)-(c:Int))::(us.drop (i+(n+2+1))).map tV,1,true):=rfl
   refine fS rfl ((adJ (o:=i) (n:=n+2) TD (aKP _) (by simpa using Dc) EZ G7 (by omega) F1 hd' IZ (by omega) (by omega)).mono ?_)
   rintro r H' ⟨W8,c2,rfl,JM,hd2,hc2,hE2⟩
   rw[hPP] at hE2
   have awU:val 1000000000 W8<P:=by have:=rI hd2;rwa [JM,hPP] at this
   obtain⟨hy,hZ⟩:(u2:Int)-(c:Int)+(c2:Int)=0∧val 1000000000 W8=val 1000000000 jL % val 1000000000 vs:=by
    refine atO (P:=P) ?_ awU (by omega)
    have i1:(P:Int)*((u2:Int)-(c:Int)+(c2:Int))=(P:Int)*u2-(P:Int)*c+(P:Int)*c2:=by rw[Int.mul_add,Int.mul_sub]
    have i2:((P*u2:Nat):Int)=(P:Int)*u2:=by simp
    have i3:((P*c:Nat):Int)=(P:Int)*c:=by simp
    have i4:((P*c2:Nat):Int)=(P:Int)*c2:=by simp
    rw[i1,←i2,←i3,←i4]
    have i5:g'*val 1000000000 vs=val 1000000000 vs*(val 1000000000 jL / val 1000000000 vs)+val 1000000000 vs:=by rw[WK,aKQ,aMT,aLN (val 1000000000 vs)]
    omega
   have Lo:((H2 us os).set 0 (.row 0 ((us.take i).map tV++Dn.map tV++VI ((u2:Int)-(c:Int))::(us.drop (i+(n+2+1))).map tV) 1 true)).set 0 (.row 0 ((us.take i).map tV++W8.map tV++VI ((u2:Int)-(c:Int)+(c2:Int))::(us.drop (i+(n+2+1))).map tV) 1 true)=H2 (us.take i++(W8++[0])++us.drop (i+(n+2+1))) os:=by
    rw[hy]
    rw[show (0:Int)=((0:Nat):Int) from rfl,lX]
    rfl
   rw[Lo]
   obtain⟨x1,x2⟩:=e3 (us.take i++(W8++[0])++us.drop (i+(n+2+1))) (g'-1)
   obtain⟨y1,y2,y3,y4⟩:=rows W8 0 (g'-1) JM hd2 (by decide) (by rw[WK,Nat.add_sub_cancel]) (by rw[aMz,aMA];exact hZ)
   simp only[Wy,Ws,Um,Wu,aqN,arZ,x1,x2,wi,VX,Nat.reduceEqDiff,Nat.reduceAdd]
   refine⟨(i,us.take i++(W8++[0])++us.drop (i+(n+2+1)),os.set i (g'-1)),by simp only;omega,by omega,rfl,y1,y2,by rw[aMk];exact iA,nU nI (by omega),y3,y4,?_⟩
   try (repeat' apply aL1)<;>first | rfl | trivial
  ·rw[decide_eq_false jV] at hr
   subst hr
   obtain⟨t',ht'⟩:∃t':Nat,(u2:Int)-(c:Int)=(t':Int):=⟨u2-c,by omega⟩
   have hP1:P*u2=P*c+P*t':=by rw[←aMI];congr 1;omega
   have GY:g'*val 1000000000 vs≤val 1000000000 jL:=by omega
   have WK:g'=val 1000000000 jL / val 1000000000 vs:=by
    have:=(aMR K3).2 GY
    omega
   have Lo:(H2 us os).set 0 (.row 0 ((us.take i).map tV++Dn.map tV++VI ((u2:Int)-(c:Int))::(us.drop (i+(n+2+1))).map tV) 1 true)=H2 (us.take i++(Dn++[t'])++us.drop (i+(n+2+1))) os:=by
    rw[ht',lX]
    rfl
   rw[Lo]
   obtain⟨x1,x2⟩:=e3 (us.take i++(Dn++[t'])++us.drop (i+(n+2+1))) g'
   have hse:val 1000000000 Dn+P*t'=val 1000000000 jL % val 1000000000 vs:=by
    rw[←WK,aLN] at hdm
    omega
   obtain⟨y1,y2,y3,y4⟩:=rows Dn t' g' EZ hd' (by omega) WK hse
   simp only[Wy,Ws,Um,Wu,aqN,arZ,r19,x1,x2,wi,VX,Nat.reduceEqDiff,Nat.reduceAdd]
   refine⟨(i,us.take i++(Dn++[t'])++us.drop (i+(n+2+1)),os.set i g'),by simp only;omega,by omega,rfl,y1,y2,by rw[aMk];exact iA,nU nI (by omega),y3,y4,?_⟩
   try (repeat' apply aL1)<;>first | rfl | trivial
 ·have XU:j=0:=by omega
  subst XU
  rw[Nat.pow_zero,aMT,aLx] at hv
  rw[aLx] at bF
  simp only[kA,Lg,B5,CY,Nh,k16,Iw,hz,VX,Nat.reduceEqDiff,Nat.reduceAdd]
  exact hQ _ us os Lg B5 k16 TG ME iA nI hv bF
end Go.PM
namespace Go.PM
def bl (n:Nat):Nat:=(aD 2 n).length
theorem HC (n:Nat):n<2^bl n:=iO (by decide) n
theorem C3 {n k:Nat} (h:n<2^k):bl n≤k:=oN (by decide) h
theorem mA {m n:Nat} (h:m≤n):bl m≤bl n:=eU (by decide) h
theorem nW (m n:Nat):bl (m*n)≤bl m+bl n:=by
 refine C3 ?_
 rw[Nat.pow_add]
 exact Nat.mul_lt_mul'' (HC m) (HC n)
theorem J5 {n k:Nat} (h:bl n≤k):n<2^k:=aKn (HC n) (aMp (by decide) h)
theorem X8 {m n k:Nat} (hm:bl m≤k) (hn:bl n≤k):bl (m+n)≤k+1:=by
 refine C3 ?_
 have h1:=J5 hm
 have h2:=J5 hn
 rw[aLM]
 omega
theorem YX:bl 0=0:=by simp[bl,cD]
theorem PD:bl 1=1:=by simp[bl,kO (b:=2) (by decide) (n:=1) (by decide),cD]
theorem amU {n:Nat} (h:n≠0):1≤bl n:=by
 have:=mA (m:=1) (n:=n) (by omega)
 rwa [PD] at this
theorem auN (n:Nat):32*(aD 4294967296 n).length≤bl n+31:=by
 by_cases h:n=0
 ·subst h;rw[cD];simp
 ·have h1:=Ns (b:=4294967296) (by decide) h
  have h2:=HC n
  have e:(4294967296:Nat)=2^32:=by decide
  rw[e] at h1 ⊢
  rw[←Nat.pow_mul] at h1
  have h3:2^(32*((aD (2^32) n).length-1))<2^bl n:=by omega
  have h4:=(aMN (by decide)).1 h3
  omega
theorem atY (n:Nat):29*(aD 1000000000 n).length≤bl n+28:=by
 by_cases h:n=0
 ·subst h;rw[cD];simp
 ·have h1:=Ns (b:=1000000000) (by decide) h
  have h2:=HC n
  have h5:(2^29)^((aD 1000000000 n).length-1)≤1000000000^((aD 1000000000 n).length-1):=Nat.pow_le_pow_left (by decide) _
  rw[←Nat.pow_mul] at h5
  have h3:2^(29*((aD 1000000000 n).length-1))<2^bl n:=by omega
  have h4:=(aMN (by decide)).1 h3
  omega
def aM (q:Rat):Nat:=max (bl q.num.natAbs) (bl q.den)
theorem pV {q:Rat}:bl q.num.natAbs≤aM q:=Nat.le_max_left _ _
theorem oE {q:Rat}:bl q.den≤aM q:=Nat.le_max_right _ _
theorem QL {q:Rat}:1≤aM q:=aKm (amU q.den_nz) oE
theorem VF {q:Rat} {k:Nat} (h1:bl q.num.natAbs≤k) (h2:bl q.den≤k):aM q≤k:=Nat.max_le.2 ⟨h1,h2⟩
theorem Dk {n:Int} {d k:Nat} (h1:bl n.natAbs≤k) (h2:bl d≤k) (hk:1≤k):aM (mkRat n d)≤k:=by
 refine VF ?_ ?_
 ·rw[Rat.num_mkRat]
  split
  ·rw[Int.natAbs_zero,YX];omega
  ·exact aKm (mA (Int.natAbs_ediv_le_natAbs _ _)) h1
 ·rw[Rat.den_mkRat]
  split
  ·rw[PD];exact hk
  ·exact aKm (mA (aMQ _ _)) h2
theorem yE (a b:Rat):aM (a+b)≤aM a+aM b+1:=by
 rw[Rat.add_def']
 have h1 := @pV a
 have h2 := @pV b
 have h3 := @oE a
 have h4 := @oE b
 have h5:=nW a.num.natAbs b.den
 have h6:=nW b.num.natAbs a.den
 have h7:=nW a.den b.den
 refine Dk ?_ (by omega) (by omega)
 have h8:(a.num*b.den+b.num*a.den).natAbs≤a.num.natAbs*b.den+b.num.natAbs*a.den:=by
  refine aKm (Int.natAbs_add_le _ _) ?_
  rw[aMX,aMX,aMY,aMY]
  exact aKl _
 exact aKm (mA h8) (X8 (by omega) (by omega))
theorem qB (a b:Rat):aM (a*b)≤aM a+aM b:=by
 rw[Rat.mul_def']
 have h1 := @pV a
 have h2 := @pV b
 have h3 := @oE a
 have h4 := @oE b
 have h5:=nW a.num.natAbs b.num.natAbs
 have h7:=nW a.den b.den
 have h8 := @QL a
 refine Dk ?_ (by omega) (by omega)
 rw[aMX]
 omega
theorem Gc (a:Rat):aM (-a)=aM a:=by simp[aM]
theorem acC (a b:Rat):aM (a-b)≤aM a+aM b+1:=by
 rw[Rat.sub_eq_add_neg]
 have:=yE a (-b)
 rwa [Gc] at this
theorem QV (a:Rat):aM a⁻¹≤aM a:=by
 have h1 := @pV a
 have h2 := @oE a
 refine VF ?_ ?_
 ·rw[Rat.num_inv,aMX,aMY]
  refine aKm (mA ?_) h2
  have h3:a.num.sign.natAbs≤1:=by
   rcases Int.lt_trichotomy a.num 0 with h | h | h
   ·rw[Int.sign_eq_neg_one_of_neg h];decide
   ·rw[h];decide
   ·rw[Int.sign_eq_one_of_pos h];decide
  have:=aKM a.den h3
  omega
 ·rw[Rat.den_inv]
  split
  ·rw[PD];exact QL
  ·exact h1
theorem GH (a b:Rat):aM (a / b)≤aM a+aM b:=by
 rw[Rat.div_def]
 have:=qB a b⁻¹
 have:=QV b
 omega
theorem vB:aM 0=1:=by simp[aM,YX,PD]
theorem Kw:aM 1=1:=by simp[aM,PD]
def mF (neg:Bool) (t:Nat):Int:=if neg then -(t:Int) else t
theorem qJ (neg:Bool) (t:Nat):(mF neg t).natAbs=t:=by cases neg<;>simp[mF]
theorem Tl {neg:Bool} {t:Nat}:mF neg t<0↔neg=true∧t≠0:=by cases neg<;>simp[mF]<;>omega
theorem Be (neg:Bool):mF neg 0=0:=by cases neg<;>rfl
theorem Jb (z:Int):mF (decide (z<0)) z.natAbs=z:=by
 by_cases h:z<0<;>simp[mF,h]<;>omega
theorem arG {neg:Bool} {t g:Nat}:(mF neg t) / (g:Int)=mF neg (t / g)∨¬g ∣ t:=by
 by_cases h:g ∣ t
 ·left
  obtain⟨k,rfl⟩:=h
  by_cases hg:g=0
  ·subst hg;simp[Be]
  ·rw[Nat.mul_div_cancel_left _ (by omega)]
   cases neg
   ·simp only[mF]
    simp only[aKX,if_false]
    rw[aMJ,aMZ _ (by omega)]
   ·simp only[mF,if_true]
    rw[aMJ,←Int.mul_neg,aMZ _ (by omega)]
 ·exact .inr h
theorem Iz {neg:Bool} {t b:Nat} (hb:b≠0):(mkRat (mF neg t) b).num=mF neg (t / Nat.gcd t b):=by
 rw[Rat.num_mkRat,if_neg hb,qJ,Nat.gcd_comm]
 rcases arG (neg:=neg) (t:=t) (g:=Nat.gcd t b) with h | h
 ·exact h
 ·exact absurd (Nat.gcd_dvd_left _ _) h
theorem Tm {neg:Bool} {t b:Nat} (hb:b≠0):(mkRat (mF neg t) b).den=b / Nat.gcd t b:=by
 rw[Rat.den_mkRat,if_neg hb,qJ,Nat.gcd_comm]
theorem Nt (q:Rat):mkRat (mF (decide (q.num<0)) q.num.natAbs) q.den=q:=by rw[Jb,Rat.mkRat_self]
end Go.PM