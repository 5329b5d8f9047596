/- Texts of a claim, in one: part 9. -/
import Derived.Test.YtjmflicajplclaaGreatDoorKAh
open And renaming intro → aMk
open Bool renaming false_eq_true → aLg
open Int renaming mul_ediv_cancel_left → aNk,mul_le_mul_of_nonneg_left → aNh,natAbs_mul → aNi,natAbs_natCast → aNj,natCast_add → aMP,natCast_mul → aM4
open List renaming append_assoc → aMq,drop_drop → aLE,drop_of_length_le → aMx,drop_zero → aLQ,getElem?_drop → aKC,getElem?_eq_getElem → aKL,getElem?_eq_none_iff → aMV,getElem?_eq_some_iff → aKD,getElem?_set_ne → aK3,getElem?_set_self → aK2,getElem?_take_of_lt → aK1,length_append → aKP,length_drop → aM5,length_set → aMC,length_take → aMd,mem_append → aLA,mem_of_getElem? → aLy,mem_of_mem_drop → aLC,mem_of_mem_take → aLB,replicate → aLu,take_append_drop → aLN,take_append_of_le_length → aNf,take_of_length_le → aLx
open Nat renaming add_mul → aK9,add_mul_div_left → aM6,add_mul_mod_self_left → aM7,add_zero → aML,div_add_mod → aNg,div_div_eq_div_mul → aMR,div_eq_of_lt → aMb,div_le_self → aNb,div_mul_le_self → aNd,le_div_iff_mul_le → aNc,le_of_ble_eq_true → aMs,le_of_lt → aLl,le_refl → aKE,le_trans → aKF,lt_of_le_of_lt → aNa,lt_of_lt_of_le → aKG,lt_of_mul_lt_mul_right → aME,mod_add_div → aMN,mod_eq_of_lt → aL8,mod_lt → aK6,mul_add → aM3,mul_assoc → aMU,mul_comm → aL6,mul_le_mul → aMX,mul_le_mul_left → aMD,mul_le_mul_right → aK5,mul_lt_mul_of_pos_right → aM9,mul_zero → aMK,one_mul → aNe,pow_le_pow_right → aMH,pow_lt_pow_iff_right → aM8,pow_succ → aL5,zero_add → aMc,zero_le → aK8
set_option linter.unusedSimpArgs false
set_option linter.unusedVariables false
namespace Go.PM
theorem Tm {H:aA} {b b' g:Nat} {x:fO} (h:b≠b'):aG (H.set b x) b' g=aG H b' g:=by
 unfold aG
 rw[aK3 h]
theorem qA {H:aA} {b g e:Nat} {es pK:List VV} {w w':Bool} (h:aG H b g=some (es,e,w)):aG (H.set b (.row g pK e w')) b g=some (pK,e,w'):=by
 have bI:b<H.length:=by
  unfold aG at h
  split at h
  ·rename_i hb
   exact(aKD.1 hb).1
  ·cases h
 unfold aG
 rw[aK2 bI]
 simp
theorem oQ {H:aA} {b:Nat} {x y:fO}:(H.set b x).set b y=H.set b y:=by rw[List.set_set]
theorem AH {H:aA} {b g e:Nat} {es:List VV} {w:Bool} (h:aG H b g=some (es,e,w)):H.set b (.row g es e w)=H:=by
 apply List.ext_getElem?
 intro i
 by_cases hi:b=i
 ·subst hi
  unfold aG at h
  split at h
  ·rename_i hb
   split at h
   ·rename_i hg
    cases h
    rw[aK2 (aKD.1 hb).1,hb,hg]
   ·cases h
  ·cases h
 ·rw[aK3 hi]
theorem ajW {H:aA} {b g o i lo d:Nat} {pre jM post:List Nat} (hr:aG H b g=some ((pre++jM++post).map uV,1,true)) (ho:pre.length=o) (hi:i<jM.length) (dS:lo≤b) :
  bL lo 1 (.ptr b g (o+i) 0) (uV d) H=some (H.set b (.row g ((pre++jM.set i d++post).map uV) 1 true)):=by
 rw[dP (f:=uV) (e:=1) hr (by simp only[aKP];omega) dS rfl rfl,Y1 ho hi]
theorem Yr {H:aA} {lo b g o L c b2 g2 n2 c2 t:Nat} {pre jM post vs Rs:List Nat} {w2:Bool} (hr:aG H b g=some ((pre++jM++post).map uV,1,true)) (hr2:aG H b2 g2=some (Rs.map uV,1,w2)) (hb:b≠b2) (dS:lo≤b)
  (ho:pre.length=o) (hL:jM.length=L) (aGv:L≤70368744177664) (TW:Rs.take n2=vs) (hn2:n2≤Rs.length) (hle:n2≤L) (adA:∀d∈jM,d<4294967296) (I9:∀d∈vs,d<4294967296) (ht:t<4294967296) (xE:t*val 4294967296 vs≤val 4294967296 jM+val 4294967296 vs) :
  jD 200 [.ref b g o L c,.ref b2 g2 0 n2 c2,VK .u64 t] lo H fun r H'=>∃uN:List Nat,H'=H.set b (.row g ((pre++uN++post).map uV) 1 true)∧uN.length=L∧(∀d∈uN,d<4294967296) ∧
   ((r=VB false∧val 4294967296 uN+t*val 4294967296 vs=val 4294967296 jM)∨(r=VB true∧val 4294967296 jM<t*val 4294967296 vs∧val 4294967296 uN+t*val 4294967296 vs=val 4294967296 jM+val 4294967296 vs)):=by
 refine jD.walk ⟨true,false⟩ MZ (aMs rfl) ?_
 have HF:vs.length=n2:=by rw[←TW,aMd];omega
 have xQ:∀i,i<n2→Rs[i]? = vs[i]? := fun i hi=>by rw[←TW,aK1 hi]
 have Td:=sH adA
 have QG:=sH I9
 rw[hL] at Td
 rw[HF] at QG
 have hVL:val 4294967296 vs≤4294967296^L:=aKF (aLl QG) (aMH (by decide) hle)
 have e0:∀ {K:aA} {es:List VV},aG K b g=some (es,1,true)→sE (.ref b g o L c) K=some (VI L):=fun h=>eI h
 have e00:∀ {K:aA},aG K b2 g2=some (Rs.map uV,1,w2)→sE (.ref b2 g2 0 n2 c2) K=some (VI n2):=fun h=>eI h
 have rd:∀(s:List Nat),s.length=L→aG (H.set b (.row g ((pre++s++post).map uV) 1 true)) b g=some ((pre++s++post).map uV,1,true):=fun s _=>qA hr
 have rd2:∀(s:List Nat),aG (H.set b (.row g ((pre++s++post).map uV) 1 true)) b2 g2=some (Rs.map uV,1,w2):=fun s=>by rw[Tm hb];exact hr2
 have wi:∀i:Nat,i<L→IntKind.i64.wrap ((i:Int)+1)=((i+1:Nat):Int):=fun i hi=>wrapN (i+1) (by omega) (by omega)
 have back:∀(ρ:cV) (s:List Nat),s.length=L→(∀d∈s,d<4294967296)→(∀s2:List Nat,s2.length=L→(∀d∈s2,d<4294967296)→∀c,val 4294967296 s+val 4294967296 vs=val 4294967296 s2+4294967296^L*c→val 4294967296 s2+t*val 4294967296 vs=val 4294967296 jM+val 4294967296 vs)→val 4294967296 jM<t*val 4294967296 vs→ρ 0 = .ref b g o L c→ρ 1 = .ref b2 g2 0 n2 c2→ρ 7=VK .u64 0→ρ 58=VI L→ρ 59=VI 0 →
   VW ⟨true,false⟩ lo (.loop oH) (tH 2 (pR (VW ⟨true,false⟩ lo (.seq (.cT [⟨(some 6),(.mv (.const (.bool true))),none,false,[]⟩]) .ret) (Dp [.tmp 6] fun r H'=>∃uN:List Nat,H'=H.set b (.row g ((pre++uN++post).map uV) 1 true)∧uN.length=L∧(∀d∈uN,d<4294967296)∧((r=VB false∧val 4294967296 uN+t*val 4294967296 vs=val 4294967296 jM)∨(r=VB true∧val 4294967296 jM<t*val 4294967296 vs∧val 4294967296 uN+t*val 4294967296 vs=val 4294967296 jM+val 4294967296 vs)))) (Dp [.tmp 6] fun r H'=>∃uN:List Nat,H'=H.set b (.row g ((pre++uN++post).map uV) 1 true)∧uN.length=L∧(∀d∈uN,d<4294967296)∧((r=VB false∧val 4294967296 uN+t*val 4294967296 vs=val 4294967296 jM)∨(r=VB true∧val 4294967296 jM<t*val 4294967296 vs∧val 4294967296 uN+t*val 4294967296 vs=val 4294967296 jM+val 4294967296 vs))))) ρ (H.set b (.row g ((pre++s++post).map uV) 1 true)):=by
  intro ρ s hs Sj Ok aqT g0 g1 g7 g58 g59
  refine aP (fun(u:Nat×List Nat×Nat) ρ K=>u.1≤L∧K=H.set b (.row g ((pre++u.2.1++post).map uV) 1 true)∧u.2.1.length=L∧(∀d∈u.2.1,d<4294967296)∧u.2.2≤1∧val 4294967296 (s.take u.1)+val 4294967296 (vs.take u.1)=val 4294967296 (u.2.1.take u.1)+4294967296^u.1*u.2.2∧(∀j,u.1≤j→u.2.1[j]? = s[j]?) ∧
   ρ 0 = .ref b g o L c∧ρ 1 = .ref b2 g2 0 n2 c2∧ρ 7=VK .u64 u.2.2∧ρ 58=VI L∧ρ 59=VI u.1) (fun u=>L-u.1) (0,s,0) ⟨aK8 _,rfl,hs,Sj,by simp,by simp[val],fun _ _=>rfl,g0,g1,g7,g58,g59⟩ ?_
  rintro⟨i,outs,cy⟩ tK K ⟨hi,rfl,gZ,nO,hc,hv,IU,k0,k1,k7,k58,k59⟩
  simp only at hi gZ nO hc hv IU k7 k59
  by_cases bW:(i:Int)<(L:Int)
  ·obtain⟨x,hx⟩:∃x,outs[i]? = some x:=⟨_,aKL (by omega)⟩
   have lx:=nO x (aLy hx)
   have I4:s[i]? = some x:=by rw[←IU i (aKE _)];exact hx
   have e1:bJ 1 (.ref b g o L c) (VI i) (H.set b (.row g ((pre++outs++post).map uV) 1 true))=some (.ptr b g (o+i) 0):=bB (rd outs gZ) (by omega)
   have e2:bF false 1 (.ptr b g (o+i) 0) (H.set b (.row g ((pre++outs++post).map uV) 1 true))=some (uV x):=kB (rd outs gZ) (by rw[TO ho (by omega)];exact hx)
   have e3:∀d:Nat,bL lo 1 (.ptr b g (o+i) 0) (uV d) (H.set b (.row g ((pre++outs++post).map uV) 1 true))=some (H.set b (.row g ((pre++outs.set i d++post).map uV) 1 true)):=fun d=>by
    rw[ajW (rd outs gZ) ho (by omega) dS,oQ]
   have e4:=e00 (rd2 outs)
   have w1:IntKind.u64.wrap (x:Int)=(x:Int):=eT _ (by omega)
   have w2:IntKind.u64.wrap ((cy:Int)+(x:Int))=((cy+x:Nat):Int):=by rw[←aMP];exact eT _ (by omega)
   have wii:=wi i (by omega)
   have step:∀y,y<4294967296→(∀d,vs[i]? = some d→d=y)→(vs.length≤i→y=0) →
     (i+1≤L∧(outs.set i ((cy+x+y) % 4294967296)).length=L∧(∀d∈outs.set i ((cy+x+y) % 4294967296),d<4294967296)∧(cy+x+y) / 4294967296≤1∧val 4294967296 (s.take (i+1))+val 4294967296 (vs.take (i+1))=val 4294967296 ((outs.set i ((cy+x+y) % 4294967296)).take (i+1))+4294967296^(i+1)*((cy+x+y) / 4294967296))∧∀j,i+1≤j→(outs.set i ((cy+x+y) % 4294967296))[j]? = s[j]? := by
    intro y hy h1 h2
    refine⟨⟨by omega,by rw[aMC];exact gZ,nW nO (aK6 _ (by decide)),by omega,?_⟩,fun j hj=>by rw[aK3 (by omega)];exact IU j (by omega)⟩
    have hy':val 4294967296 (vs.take (i+1))=val 4294967296 (vs.take i)+4294967296^i*y:=by
     cases YC:vs[i]? with
     | some d=>rw[bE YC,h1 d YC]
     |
      none =>
      have hle:=aMV.1 YC
      rw[h2 hle,lD hle,lD (by omega),aMK,aML]
    rw[bE I4,hy',fF (by omega),aL5]
    exact Iw hv rfl (aMN _ _)
   by_cases bI:(i:Int)<(n2:Int)
   ·obtain⟨y,hy⟩:∃y,vs[i]? = some y:=⟨_,aKL (by omega)⟩
    have ly:=I9 y (aLy hy)
    have f1:bJ 1 (.ref b2 g2 0 n2 c2) (VI i) (H.set b (.row g ((pre++outs++post).map uV) 1 true))=some (.ptr b2 g2 i 0):=by rw[bB (rd2 outs) (by omega),aMc]
    have f2:bF false 1 (.ptr b2 g2 i 0) (H.set b (.row g ((pre++outs++post).map uV) 1 true))=some (uV y):=kB (rd2 outs) (by rw[xQ i (by omega)];exact hy)
    have w3:IntKind.u64.wrap (y:Int)=(y:Int):=eT _ (by omega)
    have w4:IntKind.u64.wrap (((cy+x:Nat):Int)+(y:Int))=((cy+x+y:Nat):Int):=by rw[←aMP];exact eT _ (by omega)
    obtain⟨⟨s1,s2,s3,s4,s5⟩,s6⟩:=step y ly (fun d hd=>by rw[hy] at hd;injection hd with hd;exact hd.symm) (fun h=>by omega)
    simp only[oH,k0,k1,k7,k58,k59,bW,bI,e1,e2,e3,e4,f1,f2,w1,w2,w3,w4,wii,wrap32,qX,VX,Nat.reduceEqDiff,Nat.reduceAdd]
    exact⟨(i+1,outs.set i ((cy+x+y) % 4294967296),(cy+x+y) / 4294967296),by simp only;omega,s1,rfl,s2,s3,s4,s5,s6,by (repeat' apply aMk)<;>first | rfl | trivial⟩
   ·obtain⟨⟨s1,s2,s3,s4,s5⟩,s6⟩:=step 0 (by decide) (fun d hd=>by have:=(aKD.1 hd).1;omega) (fun _=>rfl)
    simp only[aML] at s2 s3 s4 s5 s6
    simp only[oH,k0,k1,k7,k58,k59,bW,bI,e1,e2,e3,e4,w1,w2,wii,wrap32,qX,VX,Nat.reduceEqDiff,Nat.reduceAdd]
    exact⟨(i+1,outs.set i ((cy+x) % 4294967296),(cy+x) / 4294967296),by simp only;omega,s1,rfl,s2,s3,s4,s5,s6,by (repeat' apply aMk)<;>first | rfl | trivial⟩
  ·have mH:i=L:=by omega
   subst mH
   rw[aLx (by omega),aLx (by omega),aLx (by omega)] at hv
   simp only[oH,k0,k1,k7,k58,k59,bW,VX,Nat.reduceEqDiff,Nat.reduceAdd]
   exact⟨outs,rfl,gZ,nO,.inr ⟨aqT,Ok outs gZ nO cy hv⟩⟩
 simp only[HW,EZ,e0 hr,VX,Nat.reduceEqDiff,Nat.reduceAdd]
 refine aP (fun(u:Nat×List Nat×Nat×Nat) ρ K=>u.1≤L∧K=H.set b (.row g ((pre++u.2.1++post).map uV) 1 true)∧u.2.1.length=L∧(∀d∈u.2.1,d<4294967296)∧u.2.2.1<4294967296∧u.2.2.2≤1∧val 4294967296 (jM.take u.1)+4294967296^u.1*(u.2.2.1+u.2.2.2)=val 4294967296 (u.2.1.take u.1)+t*val 4294967296 (vs.take u.1)∧(∀j,u.1≤j→u.2.1[j]? = jM[j]?) ∧
  ρ 0 = .ref b g o L c∧ρ 1 = .ref b2 g2 0 n2 c2∧ρ 2=VK .u64 t∧ρ 7=VK .u64 u.2.2.1∧ρ 8=VI u.2.2.2∧ρ 13=VI L∧ρ 14=VI u.1) (fun u=>L-u.1) (0,jM,0,0) ⟨aK8 _,(AH hr).symm,hL,adA,by simp,by simp,by simp[val],fun _ _=>rfl,by (repeat' apply aMk)<;>first | rfl | trivial⟩ ?_
 rintro⟨i,outs,cy,l⟩ ρ K ⟨hi,rfl,gZ,nO,hc,Dx,hv,IU,k0,k1,k2,k7,k8,B0,C3⟩
 simp only at hi gZ nO hc Dx hv IU k7 k8 C3
 by_cases bW:(i:Int)<(L:Int)
 ·obtain⟨x,hx⟩:∃x,outs[i]? = some x:=⟨_,aKL (by omega)⟩
  have lx:=nO x (aLy hx)
  have I4:jM[i]? = some x:=by rw[←IU i (aKE _)];exact hx
  have e1:bJ 1 (.ref b g o L c) (VI i) (H.set b (.row g ((pre++outs++post).map uV) 1 true))=some (.ptr b g (o+i) 0):=bB (rd outs gZ) (by omega)
  have e2:bF false 1 (.ptr b g (o+i) 0) (H.set b (.row g ((pre++outs++post).map uV) 1 true))=some (uV x):=kB (rd outs gZ) (by rw[TO ho (by omega)];exact hx)
  have e3:∀d:Nat,bL lo 1 (.ptr b g (o+i) 0) (uV d) (H.set b (.row g ((pre++outs++post).map uV) 1 true))=some (H.set b (.row g ((pre++outs.set i d++post).map uV) 1 true)):=fun d=>by
   rw[ajW (rd outs gZ) ho (by omega) dS,oQ]
  have e4:=e00 (rd2 outs)
  have wii:=wi i (by omega)
  have w1:IntKind.i64.wrap (x:Int)=(x:Int):=wrapN x rfl (by omega)
  have step:∀y c1,y<4294967296→c1=cy+t*y→(∀d,vs[i]? = some d→d=y)→(vs.length≤i→y=0) →
    c1 / 4294967296<4294967296∧IntKind.i64.wrap ((x:Int)-((c1 % 4294967296:Nat):Int)-(l:Int))=(x:Int)-((c1 % 4294967296:Nat):Int)-(l:Int)∧IntKind.i64.wrap ((x:Int)-((c1 % 4294967296:Nat):Int))=(x:Int)-((c1 % 4294967296:Nat):Int) ∧
    ∃r l',l'≤1∧((x:Int)-((c1 % 4294967296:Nat):Int)-(l:Int)<0↔l'=1)∧IntKind.u32.wrap ((x:Int)-((c1 % 4294967296:Nat):Int)-(l:Int))=((r:Nat):Int) ∧
    (i+1≤L∧(outs.set i r).length=L∧(∀d∈outs.set i r,d<4294967296)∧c1 / 4294967296<4294967296∧l'≤1∧val 4294967296 (jM.take (i+1))+4294967296^(i+1)*(c1 / 4294967296+l')=val 4294967296 ((outs.set i r).take (i+1))+t*val 4294967296 (vs.take (i+1))∧∀j,i+1≤j→(outs.set i r)[j]? = jM[j]?):=by
   intro y c1 hy hc1 h1 h2
   have hty:t*y≤4294967295*4294967295:=aMX (by omega) (by omega)
   have hm:=aK6 c1 (show 0<4294967296 by decide)
   have hdv:=aMN c1 4294967296
   have hq:c1 / 4294967296<4294967296:=Nat.div_lt_of_lt_mul (by omega)
   refine⟨hq,wrap64 (by omega) (by omega),wrap64 (by omega) (by omega),?_⟩
   obtain⟨r,l',Gd,JC,hd,hlw,mK⟩:∃r l':Nat,l'≤1∧r<4294967296∧r+c1 % 4294967296+l=x+4294967296*l'∧IntKind.u32.wrap ((x:Int)-((c1 % 4294967296:Nat):Int)-(l:Int))=((r:Nat):Int)∧((x:Int)-((c1 % 4294967296:Nat):Int)-(l:Int)<0↔l'=1):=by
    by_cases hn:(x:Int)-((c1 % 4294967296:Nat):Int)-(l:Int)<0
    ·exact⟨x+4294967296-c1 % 4294967296-l,1,by omega,by omega,by omega,PC (by omega) hn (by omega),fun _=>rfl,fun _=>hn⟩
    ·exact⟨x-c1 % 4294967296-l,0,by omega,by omega,by omega,by rw[IntKind.wrap_u32];omega,fun h=>absurd h hn,fun h=>by omega⟩
   refine⟨r,l',Gd,mK,hlw,by omega,by rw[aMC];exact gZ,nW nO JC,hq,Gd,?_,fun j hj=>by rw[aK3 (by omega)];exact IU j (by omega)⟩
   have hy':val 4294967296 (vs.take (i+1))=val 4294967296 (vs.take i)+4294967296^i*y:=by
    cases YC:vs[i]? with
    | some d=>rw[bE YC,h1 d YC]
    |
     none =>
     have hle:=aMV.1 YC
     rw[h2 hle,lD hle,lD (by omega),aMK,aML]
   rw[bE I4,hy',fF (by omega),aL5]
   have:=acZ hv hc1 hdv.symm hd
   rw[this,aM3,Nat.mul_left_comm t]
  by_cases bI:(i:Int)<(n2:Int)
  ·obtain⟨y,hy⟩:∃y,vs[i]? = some y:=⟨_,aKL (by omega)⟩
   have ly:=I9 y (aLy hy)
   have f1:bJ 1 (.ref b2 g2 0 n2 c2) (VI i) (H.set b (.row g ((pre++outs++post).map uV) 1 true))=some (.ptr b2 g2 i 0):=by rw[bB (rd2 outs) (by omega),aMc]
   have f2:bF false 1 (.ptr b2 g2 i 0) (H.set b (.row g ((pre++outs++post).map uV) 1 true))=some (uV y):=kB (rd2 outs) (by rw[xQ i (by omega)];exact hy)
   have w3:IntKind.u64.wrap (y:Int)=(y:Int):=eT _ (by omega)
   have hty:t*y≤4294967295*4294967295:=aMX (by omega) (by omega)
   have w4:IntKind.u64.wrap ((t:Int)*(y:Int))=((t*y:Nat):Int):=by rw[←aM4];exact eT _ (by omega)
   have w5:IntKind.u64.wrap ((cy:Int)+((t*y:Nat):Int))=((cy+t*y:Nat):Int):=by rw[←aMP];exact eT _ (by omega)
   have w6:IntKind.i64.wrap (((cy+t*y) % 4294967296:Nat):Int)=(((cy+t*y) % 4294967296:Nat):Int):=wrapN _ rfl (by omega)
   obtain⟨_,a1,a2,r,l',Gd,mK,hw,s1,s2,s3,s4,s5,s6,s7⟩:=step y (cy+t*y) ly rfl (fun d hd=>by rw[hy] at hd;injection hd with hd;exact hd.symm) (fun h=>by omega)
   by_cases hn:(x:Int)-(((cy+t*y) % 4294967296:Nat):Int)-(l:Int)<0
   ·have:=mK.1 hn
    subst this
    simp only[gT,k0,k1,k2,k7,k8,B0,C3,bW,bI,e1,e2,e3,e4,f1,f2,w1,w3,w4,w5,w6,a1,a2,hn,hw,wii,wrap32,qX,VX,Nat.reduceEqDiff,Nat.reduceAdd]
    exact⟨(i+1,outs.set i r,(cy+t*y) / 4294967296,1),by simp only;omega,s1,rfl,s2,s3,s4,s5,s6,s7,by (repeat' apply aMk)<;>first | rfl | trivial⟩
   ·have:l'=0:=by
     have:l'≠1:=fun h=>hn (mK.2 h)
     omega
    subst this
    simp only[gT,k0,k1,k2,k7,k8,B0,C3,bW,bI,e1,e2,e3,e4,f1,f2,w1,w3,w4,w5,w6,a1,a2,hn,hw,wii,wrap32,qX,VX,Nat.reduceEqDiff,Nat.reduceAdd]
    exact⟨(i+1,outs.set i r,(cy+t*y) / 4294967296,0),by simp only;omega,s1,rfl,s2,s3,s4,s5,s6,s7,by (repeat' apply aMk)<;>first | rfl | trivial⟩
  ·have w6:IntKind.i64.wrap ((cy % 4294967296:Nat):Int)=((cy % 4294967296:Nat):Int):=wrapN _ rfl (by omega)
   obtain⟨_,a1,a2,r,l',Gd,mK,hw,s1,s2,s3,s4,s5,s6,s7⟩:=step 0 cy (by decide) (by simp) (fun d hd=>by have:=(aKD.1 hd).1;omega) (fun _=>rfl)
   by_cases hn:(x:Int)-((cy % 4294967296:Nat):Int)-(l:Int)<0
   ·have:=mK.1 hn
    subst this
    simp only[gT,k0,k1,k2,k7,k8,B0,C3,bW,bI,e1,e2,e3,e4,w1,w6,a1,a2,hn,hw,wii,wrap32,qX,VX,Nat.reduceEqDiff,Nat.reduceAdd]
    exact⟨(i+1,outs.set i r,cy / 4294967296,1),by simp only;omega,s1,rfl,s2,s3,s4,s5,s6,s7,by (repeat' apply aMk)<;>first | rfl | trivial⟩
   ·have:l'=0:=by
     have:l'≠1:=fun h=>hn (mK.2 h)
     omega
    subst this
    simp only[gT,k0,k1,k2,k7,k8,B0,C3,bW,bI,e1,e2,e3,e4,w1,w6,a1,a2,hn,hw,wii,wrap32,qX,VX,Nat.reduceEqDiff,Nat.reduceAdd]
    exact⟨(i+1,outs.set i r,cy / 4294967296,0),by simp only;omega,s1,rfl,s2,s3,s4,s5,s6,s7,by (repeat' apply aMk)<;>first | rfl | trivial⟩
 ·have mH:i=L:=by omega
  subst mH
  rw[aLx (by omega),aLx (by omega),aLx (by omega)] at hv
  have ayY:=sH nO
  rw[gZ] at ayY
  by_cases hz:l=0∧cy=0
  ·obtain⟨rfl,rfl⟩:=hz
   simp only[gT,k0,k1,k2,k7,k8,B0,C3,bW,Int.natCast_zero,VX,Nat.reduceEqDiff,Nat.reduceAdd]
   exact⟨outs,rfl,gZ,nO,.inl (by simpa using hv.symm)⟩
  ·have afT:cy+l=1:=by
    rcases anL hv ayY hVL xE with h | h<;>omega
   rw[afT,Nat.mul_one] at hv
   have aqT:val 4294967296 jM<t*val 4294967296 vs:=by omega
   have fin:∀s2:List Nat,s2.length=i→(∀d∈s2,d<4294967296)→∀c,val 4294967296 outs+val 4294967296 vs=val 4294967296 s2+4294967296^i*c→val 4294967296 s2+t*val 4294967296 vs=val 4294967296 jM+val 4294967296 vs:=by
    intro s2 h2 h3 c h4
    have h5:=sH h3
    rw[h2] at h5
    exact alC hv h4 h5 hVL xE Td (by omega)
   have hlen:=e0 (rd outs gZ)
   by_cases Ci:(l:Int)=0
   ·have hcy:¬(cy:Int)=0:=by omega
    simp only[gT,k0,k1,k2,k7,k8,B0,C3,bW,Ci,hcy,hlen,VX,Nat.reduceEqDiff,Nat.reduceAdd]
    exact back _ outs gZ nO fin aqT k0 k1 (by rfl) (by rfl) (by rfl)
   ·simp only[gT,k0,k1,k2,k7,k8,B0,C3,bW,Ci,hlen,VX,Nat.reduceEqDiff,Nat.reduceAdd]
    exact back _ outs gZ nO fin aqT k0 k1 (by rfl) (by rfl) (by rfl)
end Go.PM
namespace Go.PM
section
variable {H:aA} {b g o i lo d:Nat} {L R:List VV} {low:List Nat}
theorem alX (hr:aG H b g=some (L++low.map tV++R,1,true)) (ho:L.length=o) (hi:low[i]? = some d):bF false 1 (.ptr b g (o+i) 0) H=some (VI (d:Int)):=by
 have bI:=(aKD.1 hi).1
 rw[TI hr (x:=tV d) (by rw[TO ho (by simpa using bI)];simp[hi])]
 rfl
theorem ahF (hr:aG H b g=some (L++low.map tV++R,1,true)) (ho:L.length=o) (hi:i<low.length) (dS:lo≤b):bL lo 1 (.ptr b g (o+i) 0) (VI (d:Int)) H=some (H.set b (.row g (L++(low.set i d).map tV++R) 1 true)):=by
 rw[bS hr (by simp only[aKP,List.length_map];omega) dS rfl rfl,Y1 ho (by simpa using hi),List.map_set]
theorem YM {n:Nat} {z:Int} (hr:aG H b g=some (L++low.map tV++VI z::R,1,true)) (ho:L.length=o) (hn:low.length=n):bF false 1 (.ptr b g (o+n) 0) H=some (VI z):=by
 rw[TI hr (x:=VI z) (by rw[List.getElem?_append_right (by simp;omega)];simp[ho,hn])]
 rfl
theorem aiK {n:Nat} {z z':Int} (hr:aG H b g=some (L++low.map tV++VI z::R,1,true)) (ho:L.length=o) (hn:low.length=n) (dS:lo≤b):bL lo 1 (.ptr b g (o+n) 0) (VI z') H=some (H.set b (.row g (L++low.map tV++VI z'::R) 1 true)):=by
 rw[bS hr (by simp only[aKP,List.length_map,List.length_cons];omega) dS rfl rfl,List.set_append_right _ _ (by simp;omega)]
 congr 5
 simp[ho,hn]
end
theorem Sq {P A N B c u x t r k m q T:Nat} (h:A+P*c=N+t*B) (h1:r+m+c=u+T*k) (h2:m+T*q=x*t):(A+P*u)+P*T*(q+k)=(N+P*r)+t*(B+P*x):=by
 have e1:P*(r+m+c)=P*(u+T*k):=by rw[h1]
 have e2:P*(m+T*q)=P*(x*t):=by rw[h2]
 grind
theorem aoM {x t:Nat} (hx:x<1000000000) (ht:t<1000000000):x*t≤999999998000000001∧x*t / 1000000000≤999999998:=by
 have h:x*t≤999999999*999999999:=aMX (by omega) (by omega)
 omega
theorem aeF {H:aA} {lo b g o n N t top:Nat} {L R:List VV} {low vs:List Nat} (hr:aG H b g=some (L++low.map tV++VI (top:Int)::R,1,true)) (dS:lo≤b) (ho:L.length=o) (hl:low.length=n) (HF:vs.length=n) (hN:o+n<N) (FH:N≤70368744177664)
  (hld:∀d∈low,d<1000000000) (I9:∀d∈vs,d<1000000000) (ht:t<1000000000) (akA:top<1000000000) :
  jD 204 [.ref b g 0 N N,jJ vs,VI (o:Int),VI (t:Int)] lo H fun r H'=>∃(DG:List Nat) (c:Nat),H'=H.set b (.row g (L++DG.map tV++VI ((top:Int)-(c:Int))::R) 1 true)∧DG.length=n∧(∀d∈DG,d<1000000000)∧c≤1000000000 ∧
   r=VB (decide ((top:Int)-(c:Int)<0))∧val 1000000000 low+1000000000^n*c=val 1000000000 DG+t*val 1000000000 vs:=by
 refine jD.walk ⟨true,false⟩ Ji (aMs rfl) ?_
 have rd:∀(s:List Nat) (z:Int),aG (H.set b (.row g (L++s.map tV++VI z::R) 1 true)) b g=some (L++s.map tV++VI z::R,1,true):=fun s z=>qA hr
 have ad:∀(K:aA) (es:List VV) (i:Nat),aG K b g=some (es,1,true)→i≤n→bJ 1 (.ref b g 0 N N) (VI ((o+i:Nat):Int)) K=some (.ptr b g (o+i) 0):=fun K es i h hi=>by rw[bB h (by omega),aMc]
 simp only[EC,Cq,eR,VX,Nat.reduceEqDiff,Nat.reduceAdd]
 refine aP (fun(u:Nat×List Nat×Nat) ρ K=>u.1≤n∧K=H.set b (.row g (L++u.2.1.map tV++VI (top:Int)::R) 1 true)∧u.2.1.length=n∧(∀d∈u.2.1,d<1000000000)∧u.2.2≤1000000000∧val 1000000000 (low.take u.1)+1000000000^u.1*u.2.2=val 1000000000 (u.2.1.take u.1)+t*val 1000000000 (vs.take u.1)∧(∀j,u.1≤j→u.2.1[j]? = low[j]?) ∧
  ρ 0 = .ref b g 0 N N∧ρ 1=jJ vs∧ρ 2=VI o∧ρ 3=VI t∧ρ 9=VI u.2.2∧ρ 13=jJ vs∧ρ 14=VI vs.length∧ρ 15=VI u.1) (fun u=>n-u.1) (0,low,0) ⟨aK8 _,(AH hr).symm,hl,hld,by simp,by simp[val],fun _ _=>rfl,by (repeat' apply aMk)<;>first | rfl | trivial⟩ ?_
 rintro⟨i,outs,c⟩ ρ K ⟨hi,rfl,gZ,nO,hc,hv,IU,k0,k1,k2,k3,k9,B0,C3,Nx⟩
 simp only at hi gZ nO hc hv IU k9 Nx
 by_cases bW:(i:Int)<(vs.length:Int)
 ·obtain⟨u,hu⟩:∃u,outs[i]? = some u:=⟨_,aKL (by omega)⟩
  have lu:=nO u (aLy hu)
  have hu':low[i]? = some u:=by rw[←IU i (aKE _)];exact hu
  obtain⟨x,hx⟩:∃x,vs[i]? = some x:=⟨_,aKL (by omega)⟩
  have lx:=I9 x (aLy hx)
  obtain⟨xt1,xt2⟩:=aoM lx ht
  have e1:bJ 1 (jJ vs) (VI i) (H.set b (.row g (L++outs.map tV++VI (top:Int)::R) 1 true))=some (.cG (tV x) 0):=aH (f:=tV) (t := .op) (size:=1) (k := .i64) hx rfl
  have w1:IntKind.i64.wrap ((o:Int)+(i:Int))=((o+i:Nat):Int):=wrapN _ (by omega) (by omega)
  have e2:=ad _ _ i (rd outs top) (by omega)
  have e3:=alX (rd outs top) ho hu
  have e4:∀d:Nat,bL lo 1 (.ptr b g (o+i) 0) (VI (d:Int)) (H.set b (.row g (L++outs.map tV++VI (top:Int)::R) 1 true))=some (H.set b (.row g (L++(outs.set i d).map tV++VI (top:Int)::R) 1 true)):=fun d=>by rw[ahF (rd outs top) ho (by omega) dS,oQ]
  have w2:IntKind.i64.wrap ((x:Int)*(t:Int))=((x*t:Nat):Int):=wrapN _ (by simp) (by omega)
  have r1:=QK (x*t)
  have q1:=Rz (x*t) (by omega)
  have hm:=aK6 (x*t) (show 0<1000000000 by decide)
  have hdv:=aMN (x*t) 1000000000
  have wi:IntKind.i64.wrap ((i:Int)+1)=((i+1:Nat):Int):=wrapN (i+1) (by omega) (by omega)
  generalize hmq:x*t % 1000000000=m at *
  generalize hqq:x*t / 1000000000=q at *
  have w3:IntKind.i64.wrap ((u:Int)-(m:Int))=(u:Int)-(m:Int):=wrap64 (by omega) (by omega)
  have w4:IntKind.i64.wrap ((u:Int)-(m:Int)-(c:Int))=(u:Int)-(m:Int)-(c:Int):=wrap64 (by omega) (by omega)
  have step:∀r k:Nat,r<1000000000→r+m+c=u+1000000000*k→val 1000000000 (low.take (i+1))+1000000000^(i+1)*(q+k)=val 1000000000 ((outs.set i r).take (i+1))+t*val 1000000000 (vs.take (i+1))∧(∀d∈outs.set i r,d<1000000000)∧(∀j,i+1≤j→(outs.set i r)[j]? = low[j]?)∧(outs.set i r).length=n:=by
   intro r k hr hk
   refine⟨?_,nW nO hr,fun j hj=>by rw[aK3 (by omega)];exact IU j (by omega),by rw[aMC];exact gZ⟩
   rw[bE hu',bE hx,fF (by omega),aL5]
   exact Sq hv hk hdv
  by_cases h1:(u:Int)-(m:Int)-(c:Int)<0
  ·have w5:IntKind.i64.wrap ((u:Int)-(m:Int)-(c:Int)+1000000000)=(u:Int)-(m:Int)-(c:Int)+1000000000:=wrap64 (by omega) (by omega)
   have w6:IntKind.i64.wrap ((q:Int)+1)=((q+1:Nat):Int):=wrapN _ (by omega) (by omega)
   by_cases h2:(u:Int)-(m:Int)-(c:Int)+1000000000<0
   ·obtain⟨r,hr⟩:∃r:Nat,r+m+c=u+1000000000*2:=⟨u+1000000000*2-m-c,by omega⟩
    have w7:IntKind.i64.wrap ((u:Int)-(m:Int)-(c:Int)+1000000000+1000000000)=(r:Int):=wrapN r (by omega) (by omega)
    have w8:IntKind.i64.wrap (((q+1:Nat):Int)+1)=((q+2:Nat):Int):=wrapN _ (by omega) (by omega)
    obtain⟨s1,s2,s3,s4⟩:=step r 2 (by omega) hr
    simp only[lP,k0,k1,k2,k3,k9,B0,C3,Nx,bW,e1,e2,e3,e4,w1,w2,w3,w4,w5,w6,w7,w8,wi,r1,q1,h1,h2,VX,Nat.reduceEqDiff,Nat.reduceAdd]
    refine⟨(i+1,outs.set i r,q+2),by simp only;omega,by omega,rfl,s4,s2,by simp only;omega,s1,s3,?_⟩
    try (repeat' apply aMk)<;>first | rfl | trivial
   ·obtain⟨r,hr⟩:∃r:Nat,r+m+c=u+1000000000*1:=⟨u+1000000000*1-m-c,by omega⟩
    have w7:IntKind.i64.wrap ((u:Int)-(m:Int)-(c:Int)+1000000000)=(r:Int):=wrapN r (by omega) (by omega)
    have h3:¬(r:Int)<0:=by omega
    obtain⟨s1,s2,s3,s4⟩:=step r 1 (by omega) hr
    simp only[lP,k0,k1,k2,k3,k9,B0,C3,Nx,bW,e1,e2,e3,e4,w1,w2,w3,w4,w6,w7,wi,r1,q1,h1,h3,VX,Nat.reduceEqDiff,Nat.reduceAdd]
    refine⟨(i+1,outs.set i r,q+1),by simp only;omega,by omega,rfl,s4,s2,by simp only;omega,s1,s3,?_⟩
    try (repeat' apply aMk)<;>first | rfl | trivial
  ·obtain⟨r,hr⟩:∃r:Nat,r+m+c=u+1000000000*0:=⟨u-m-c,by omega⟩
   have w7:IntKind.i64.wrap ((u:Int)-(m:Int)-(c:Int))=(r:Int):=wrapN r (by omega) (by omega)
   have h3:¬(r:Int)<0:=by omega
   obtain⟨s1,s2,s3,s4⟩:=step r 0 (by omega) hr
   simp only[lP,k0,k1,k2,k3,k9,B0,C3,Nx,bW,e1,e2,e3,e4,w1,w2,w3,w7,wi,r1,q1,h3,VX,Nat.reduceEqDiff,Nat.reduceAdd]
   refine⟨(i+1,outs.set i r,q),by simp only;omega,by omega,rfl,s4,s2,by simp only;omega,s1,s3,?_⟩
   try (repeat' apply aMk)<;>first | rfl | trivial
 ·have mH:i=n:=by omega
  subst mH
  rw[aLx (by omega),aLx (by omega),aLx (by omega)] at hv
  have w1:IntKind.i64.wrap ((o:Int)+(vs.length:Int))=((o+i:Nat):Int):=wrapN _ (by omega) (by omega)
  have e2:=ad _ _ i (rd outs top) (by omega)
  have e2':=ad _ _ i (rd outs ((top:Int)-(c:Int))) (by omega)
  have e3:=YM (rd outs top) ho gZ
  have e3':=YM (rd outs ((top:Int)-(c:Int))) ho gZ
  have e4:bL lo 1 (.ptr b g (o+i) 0) (VI ((top:Int)-(c:Int))) (H.set b (.row g (L++outs.map tV++VI (top:Int)::R) 1 true))=some (H.set b (.row g (L++outs.map tV++VI ((top:Int)-(c:Int))::R) 1 true)):=by rw[aiK (rd outs top) ho gZ dS,oQ]
  have w2:IntKind.i64.wrap ((top:Int)-(c:Int))=(top:Int)-(c:Int):=wrap64 (by omega) (by omega)
  simp only[lP,k0,k1,k2,k3,k9,B0,C3,Nx,bW,eR,w1,w2,e2,e2',e3,e3',e4,VX,Nat.reduceEqDiff,Nat.reduceAdd]
  refine⟨outs,c,rfl,gZ,nO,hc,?_,hv⟩
  try rfl
theorem aeD {H:aA} {lo b g o n N:Nat} {z:Int} {L R:List VV} {low vs:List Nat} (hr:aG H b g=some (L++low.map tV++VI z::R,1,true)) (dS:lo≤b) (ho:L.length=o) (hl:low.length=n) (HF:vs.length=n) (hN:o+n<N) (FH:N≤70368744177664)
  (hld:∀d∈low,d<1000000000) (I9:∀d∈vs,d<1000000000) (hz : -1000000000≤z) (Nz:z≤1000000000) :
  jD 205 [.ref b g 0 N N,jJ vs,VI (o:Int)] lo H fun r H'=>∃(DG:List Nat) (c:Nat),H'=H.set b (.row g (L++DG.map tV++VI (z+(c:Int))::R) 1 true)∧DG.length=n∧(∀d∈DG,d<1000000000)∧c≤1 ∧
   val 1000000000 low+val 1000000000 vs=val 1000000000 DG+1000000000^n*c:=by
 refine jD.walk ⟨true,false⟩ JG (aMs rfl) ?_
 have rd:∀(s:List Nat) (z:Int),aG (H.set b (.row g (L++s.map tV++VI z::R) 1 true)) b g=some (L++s.map tV++VI z::R,1,true):=fun s z=>qA hr
 have ad:∀(K:aA) (es:List VV) (i:Nat),aG K b g=some (es,1,true)→i≤n→bJ 1 (.ref b g 0 N N) (VI ((o+i:Nat):Int)) K=some (.ptr b g (o+i) 0):=fun K es i h hi=>by rw[bB h (by omega),aMc]
 simp only[E1,B4,eR,VX,Nat.reduceEqDiff,Nat.reduceAdd]
 refine aP (fun(u:Nat×List Nat×Nat) ρ K=>u.1≤n∧K=H.set b (.row g (L++u.2.1.map tV++VI z::R) 1 true)∧u.2.1.length=n∧(∀d∈u.2.1,d<1000000000)∧u.2.2≤1∧val 1000000000 (low.take u.1)+val 1000000000 (vs.take u.1)=val 1000000000 (u.2.1.take u.1)+1000000000^u.1*u.2.2∧(∀j,u.1≤j→u.2.1[j]? = low[j]?) ∧
  ρ 0 = .ref b g 0 N N∧ρ 1=jJ vs∧ρ 2=VI o∧ρ 6=VI u.2.2∧ρ 10=jJ vs∧ρ 11=VI vs.length∧ρ 12=VI u.1) (fun u=>n-u.1) (0,low,0) ⟨aK8 _,(AH hr).symm,hl,hld,by simp,by simp[val],fun _ _=>rfl,by (repeat' apply aMk)<;>first | rfl | trivial⟩ ?_
 rintro⟨i,outs,c⟩ ρ K ⟨hi,rfl,gZ,nO,hc,hv,IU,k0,k1,k2,k6,k10,k11,KZ⟩
 simp only at hi gZ nO hc hv IU k6 KZ
 by_cases bW:(i:Int)<(vs.length:Int)
 ·obtain⟨u,hu⟩:∃u,outs[i]? = some u:=⟨_,aKL (by omega)⟩
  have lu:=nO u (aLy hu)
  have hu':low[i]? = some u:=by rw[←IU i (aKE _)];exact hu
  obtain⟨x,hx⟩:∃x,vs[i]? = some x:=⟨_,aKL (by omega)⟩
  have lx:=I9 x (aLy hx)
  have e1:bJ 1 (jJ vs) (VI i) (H.set b (.row g (L++outs.map tV++VI z::R) 1 true))=some (.cG (tV x) 0):=aH (f:=tV) (t := .op) (size:=1) (k := .i64) hx rfl
  have w1:IntKind.i64.wrap ((o:Int)+(i:Int))=((o+i:Nat):Int):=wrapN _ (by omega) (by omega)
  have e2:=ad _ _ i (rd outs z) (by omega)
  have e3:=alX (rd outs z) ho hu
  have e4:∀d:Nat,bL lo 1 (.ptr b g (o+i) 0) (VI (d:Int)) (H.set b (.row g (L++outs.map tV++VI z::R) 1 true))=some (H.set b (.row g (L++(outs.set i d).map tV++VI z::R) 1 true)):=fun d=>by rw[ahF (rd outs z) ho (by omega) dS,oQ]
  have w2:IntKind.i64.wrap ((u:Int)+(x:Int))=((u+x:Nat):Int):=wrapN _ (by omega) (by omega)
  have w3:IntKind.i64.wrap (((u+x:Nat):Int)+(c:Int))=((u+x+c:Nat):Int):=wrapN _ (by omega) (by omega)
  have r1:=QK (u+x+c)
  have q1:=Rz (u+x+c) (by omega)
  have wi:IntKind.i64.wrap ((i:Int)+1)=((i+1:Nat):Int):=wrapN (i+1) (by omega) (by omega)
  simp only[uZ,k0,k1,k2,k6,k10,k11,KZ,bW,e1,e2,e3,e4,w1,w2,w3,wi,r1,q1,VX,Nat.reduceEqDiff,Nat.reduceAdd]
  refine⟨(i+1,outs.set i ((u+x+c) % 1000000000),(u+x+c) / 1000000000),by simp only;omega,by omega,rfl,by rw[aMC];exact gZ,nW nO (aK6 _ (by decide)),by simp only;omega,?_,fun j hj=>by rw[aK3 (by omega)];exact IU j (by omega),?_⟩
  ·simp only
   rw[bE hu',bE hx,fF (by omega),aL5]
   exact Iw hv (show c+u+x=u+x+c by omega) (aMN _ _)
  ·try (repeat' apply aMk)<;>first | rfl | trivial
 ·have mH:i=n:=by omega
  subst mH
  rw[aLx (by omega),aLx (by omega),aLx (by omega)] at hv
  have w1:IntKind.i64.wrap ((o:Int)+(vs.length:Int))=((o+i:Nat):Int):=wrapN _ (by omega) (by omega)
  have e2:=ad _ _ i (rd outs z) (by omega)
  have e3:=YM (rd outs z) ho gZ
  have e4:bL lo 1 (.ptr b g (o+i) 0) (VI (z+(c:Int))) (H.set b (.row g (L++outs.map tV++VI z::R) 1 true))=some (H.set b (.row g (L++outs.map tV++VI (z+(c:Int))::R) 1 true)):=by rw[aiK (rd outs z) ho gZ dS,oQ]
  have w2:IntKind.i64.wrap (z+(c:Int))=z+(c:Int):=wrap64 (by omega) (by omega)
  simp only[uZ,k0,k1,k2,k6,k10,k11,KZ,bW,eR,w1,w2,e2,e3,e4,VX,Nat.reduceEqDiff,Nat.reduceAdd]
  exact⟨outs,c,rfl,gZ,nO,hc,hv⟩
end Go.PM
namespace Go.PM
theorem AI {d:Nat} {H:aA}:fz (d+1) H (.tree [] .nil)=some (bR 0):=by
 rw[GZ]
 unfold fz
 have:aY (.tree [] .nil)=false:=by simp[aY]
 simp only[this,aLg,if_false]
 rfl
theorem amP {d:Nat} {H:aA} {m:Nat} {t:TK} (ht:t = .cl 1∨t = .op):fz (d+2) H (.tree ((aD 4294967296 m).map uV) t)=some (bR m):=by
 rcases ht with rfl | rfl
 ·unfold fz
  have:aY (.tree ((aD 4294967296 m).map uV) (.cl 1))=false:=by simp[aY]
  simp only[this,aLg,if_false]
  rw[mapM_pure (fN fun _=>rfl)]
  rfl
 ·exact aM (bU m)
abbrev H3 (us ws os:List Nat):aA:=[.row 0 (us.map uV) 1 true,.row 0 (ws.map uV) 1 true,.row 0 (os.map uV) 1 true]
theorem E9 {us ws os:List Nat}:aG (H3 us ws os) 0 0=some (us.map uV,1,true):=rfl
theorem aAT {us ws os:List Nat}:aG (H3 us ws os) 1 0=some (ws.map uV,1,true):=rfl
theorem arP {us ws os:List Nat}:aG (H3 us ws os) 2 0=some (os.map uV,1,true):=rfl
theorem acT {us:List Nat} {i n N V:Nat} (hN:us.length=N) (bW:i+n<N) (hd:∀d∈us,d<4294967296) (hV:V<4294967296^n) (E2:val 4294967296 (us.drop (i+1))<V) :
  us=us.take i++(us.drop i).take (n+1)++us.drop (i+(n+1))∧(us.take i).length=i∧((us.drop i).take (n+1)).length=n+1∧val 4294967296 ((us.drop i).take (n+1))<4294967296*V∧val 4294967296 (us.drop i)=val 4294967296 ((us.drop i).take (n+1))∧val 4294967296 (us.drop (i+(n+1)))=0∧∀j,j<n+1→((us.drop i).take (n+1))[j]? = us[i+j]? := by
 obtain⟨x,hx⟩:∃x,us[i]? = some x:=⟨_,aKL (by omega)⟩
 have lx:=hd x (aLy hx)
 have h1:=wD (b:=4294967296) hx
 have h2:val 4294967296 (us.drop i)<4294967296*V:=by
  have:4294967296*(val 4294967296 (us.drop (i+1))+1)≤4294967296*V:=aMD _ E2
  omega
 have h3:=tB (b:=4294967296) (us.drop i) (n+1)
 have h4:((us.drop i).take (n+1)).length=n+1:=by rw[aMd,aM5];omega
 rw[h4,aLE] at h3
 have h5:val 4294967296 (us.drop (i+(n+1)))=0:=by
  rcases Nat.eq_zero_or_pos (val 4294967296 (us.drop (i+(n+1)))) with h | h
  ·exact h
  ·have h6:4294967296^(n+1)*1≤4294967296^(n+1)*val 4294967296 (us.drop (i+(n+1))):=aMD _ h
   have h7:4294967296*V≤4294967296^(n+1):=by rw[aL5,aL6];exact aK5 _ (by omega)
   omega
 rw[h5,aMK,aML] at h3
 refine⟨?_,by rw[aMd];omega,h4,by omega,h3,h5,fun j hj => ?_⟩
 ·rw[aMq,←aLE,aLN,aLN]
 ·rw[aK1 hj,aKC]
theorem Us {x D p w:Nat} (hp:0<p) (hw:p*w=4294967296):(x+4294967296*D) / p=((D % 4294967296*4294967296+x) / p) % 4294967296+4294967296*(D / p)∨¬x<4294967296:=by
 rcases Nat.lt_or_ge x 4294967296 with hx | hx
 ·left
  have h1:(x+4294967296*D) / p / 4294967296=D / p:=by
   rw[aMR,aL6 p,←aMR,aM6 _ _ (by decide),aMb hx,aMc]
  have h2:(x+4294967296*D) / p % 4294967296=(D % 4294967296*4294967296+x) / p % 4294967296:=by
   have e:x+4294967296*D=(D % 4294967296*4294967296+x)+p*(4294967296*(w*(D / 4294967296))):=by
    have h3:=aMN D 4294967296
    have h4:p*(4294967296*(w*(D / 4294967296)))=(p*w)*(4294967296*(D / 4294967296)):=by grind
    rw[h4,hw]
    omega
   rw[e,aM6 _ _ hp,aM7]
  have:=aMN ((x+4294967296*D) / p) 4294967296
  rw[h1,h2] at this
  exact this.symm
 ·right
  omega
theorem YO {x:Nat} (h0:x≠0) (hx:x<4294967296):∃s,s≤31∧TC 198 [uV x] (VI (s:Nat))∧x*2^s<4294967296:=by
 obtain⟨h1,h2,h3⟩:=Lib.bitLenAux_bounds 64 x (by omega) h0
 have h4:Lib.bitLenAux 64 x-1<32:=by
  have:2^(Lib.bitLenAux 64 x-1)<2^32:=by omega
  exact(aM8 (by decide)).1 this
 refine⟨32-Lib.bitLenAux 64 x,by omega,?_,?_⟩
 ·have:=adL x hx
  have e:(((32-Lib.bitLenAux 64 x:Nat)):Int)=32-(Lib.bitLen x:Int):=by unfold Lib.bitLen;omega
  rw[e]
  exact this
 ·have:2^Lib.bitLenAux 64 x*2^(32-Lib.bitLenAux 64 x)=4294967296:=by rw[←Nat.pow_add,show Lib.bitLenAux 64 x+(32-Lib.bitLenAux 64 x)=32 by omega]
  rw[←this]
  exact aM9 h3 (Nat.pow_pos (by decide))
theorem acV {us ws os:List Nat} {k N s w0:Nat} {ρ:cV} {Q:VQ} (hs:s≤31) (hw:2^s*w0=4294967296) (hN:us.length=N) (hk:k≤N) (FH:N≤70368744177664) (hd:∀d∈us,d<4294967296) (g8:ρ 8=VI s) (g9:ρ 9 = .ref 0 0 0 k N) (aFy:ρ 147=VI k) (aD0:ρ 148=VI 0)
  (hQ:∀(aQ:cV) (Ig:List Nat),aQ 9 = .ref 0 0 0 k N→aQ 13=ρ 13→Ig.length=N→(∀d∈Ig,d<4294967296)→val 4294967296 (Ig.take k)=val 4294967296 (us.take k) / 2^s→Q (.exit 4) aQ (H3 Ig ws os)) :
  VW ⟨true,false⟩ 0 (.loop nA) Q ρ (H3 us ws os):=by
 have hp:0<2^s:=Nat.pow_pos (by decide)
 refine aP (fun(t:Nat×List Nat) aQ H=>t.1≤k∧H=H3 t.2 ws os∧t.2.length=N∧(∀d∈t.2,d<4294967296)∧(∀j,t.1≤j→t.2[j]? = us[j]?)∧val 4294967296 (t.2.take t.1)+4294967296^t.1*(val 4294967296 ((us.take k).drop t.1) / 2^s)=val 4294967296 (us.take k) / 2^s ∧
  aQ 8=VI s∧aQ 9 = .ref 0 0 0 k N∧aQ 13=ρ 13∧aQ 147=VI k∧aQ 148=VI t.1) (fun t=>k-t.1) (0,us) ⟨aK8 _,rfl,hN,hd,fun _ _=>rfl,by simp[val],g8,g9,rfl,aFy,aD0⟩ ?_
 rintro⟨i,vs⟩ tK H ⟨hi,rfl,HF,I9,IU,hv,k8,k9,B0,axE,arU⟩
 simp only at hi HF I9 IU hv arU
 by_cases bW:(i:Int)<(k:Int)
 ·obtain⟨x,hx⟩:∃x,us[i]? = some x:=⟨_,aKL (by omega)⟩
  have hx2:vs[i]? = some x:=by rw[IU i (aKE _)];exact hx
  have lx:=hd x (aLy hx)
  have hx3:(us.take k)[i]? = some x:=by rw[aK1 (by omega)];exact hx
  have h1:=wD (b:=4294967296) hx3
  generalize hD:val 4294967296 ((us.take k).drop (i+1))=D at *
  have hlen:sE (.ref 0 0 0 k N) (H3 vs ws os)=some (VI k):=eI E9
  have e1:bJ 1 (.ref 0 0 0 k N) (VI i) (H3 vs ws os)=some (.ptr 0 0 i 0):=by rw[bB E9 (by omega),aMc]
  have e2:bF false 1 (.ptr 0 0 i 0) (H3 vs ws os)=some (uV x):=kB E9 hx2
  have e3:∀d:Nat,bL 0 1 (.ptr 0 0 i 0) (uV d) (H3 vs ws os)=some (H3 (vs.set i d) ws os):=fun d=>by
   rw[dP (f:=uV) (e:=1) E9 (by omega) (aKE _) rfl rfl]
   rfl
  have wi:IntKind.i64.wrap ((i:Int)+1)=((i+1:Nat):Int):=wrapN (i+1) (by omega) (by omega)
  have wx:IntKind.u64.wrap (x:Int)=(x:Int):=eT _ (by omega)
  have hm:=aK6 D (show 0<4294967296 by decide)
  have w5:=Gv (D % 4294967296) .u64 hm
  have w6:IntKind.u64.wrap (((D % 4294967296*4294967296:Nat):Int)+(x:Int))=((D % 4294967296*4294967296+x:Nat):Int):=by rw[←aMP];exact eT _ (by omega)
  have w7:=amD (D % 4294967296*4294967296+x) s hs
  have sd:(x+4294967296*D) / 2^s=((D % 4294967296*4294967296+x) / 2^s) % 4294967296+4294967296*(D / 2^s):=by
   rcases Us (x:=x) (D:=D) hp hw with h | h
   ·exact h
   ·exact absurd lx h
  have next:∃s':Nat×List Nat,k-s'.1<k-i∧s'.1≤k∧H3 (vs.set i (((D % 4294967296*4294967296+x) / 2^s) % 4294967296)) ws os=H3 s'.2 ws os∧s'.2.length=N∧(∀d∈s'.2,d<4294967296)∧(∀j,s'.1≤j→s'.2[j]? = us[j]?)∧val 4294967296 (s'.2.take s'.1)+4294967296^s'.1*(val 4294967296 ((us.take k).drop s'.1) / 2^s)=val 4294967296 (us.take k) / 2^s∧s'.1=i+1:=by
   refine⟨(i+1,vs.set i (((D % 4294967296*4294967296+x) / 2^s) % 4294967296)),by simp only;omega,by simp only;omega,rfl,by simp only[aMC];exact HF,nW I9 (aK6 _ (by decide)),fun j hj => ?_,?_,rfl⟩
   ·simp only at hj ⊢
    rw[aK3 (by omega)]
    exact IU j (by omega)
   ·simp only
    rw[fF (by omega),hD,←hv,h1,sd,aL5]
    generalize (D % 4294967296*4294967296+x) / 2^s % 4294967296=q
    generalize D / 2^s=E
    rw[aM3,aMU,Nat.add_assoc]
  obtain⟨s',n1,n2,n3,n4,n5,n6,n7,n8⟩:=next
  by_cases aCr:((i+1:Nat):Int)<(k:Int)
  ·obtain⟨h,hh⟩:∃h,us[i+1]? = some h:=⟨_,aKL (by omega)⟩
   have hh2:vs[i+1]? = some h:=by rw[IU (i+1) (by omega)];exact hh
   have hhD:D % 4294967296=h:=by
    have hh3:(us.take k)[i+1]? = some h:=by rw[aK1 (by omega)];exact hh
    have:=wD (b:=4294967296) hh3
    rw[hD] at this
    have lh:=hd h (aLy hh)
    omega
   have f1:bJ 1 (.ref 0 0 0 k N) (VI ((i+1:Nat):Int)) (H3 vs ws os)=some (.ptr 0 0 (i+1) 0):=by rw[bB E9 (by omega),aMc]
   have f2:bF false 1 (.ptr 0 0 (i+1) 0) (H3 vs ws os)=some (uV h):=kB E9 hh2
   have wh:IntKind.u64.wrap (h:Int)=(h:Int):=eT _ (by omega)
   rw[hhD] at w5 w6 w7 n3
   simp only[nA,k8,k9,axE,arU,bW,aCr,hlen,e1,e2,e3,f1,f2,wi,wx,wh,w5,w6,w7,wrap32,VX,Nat.reduceEqDiff,Nat.reduceAdd]
   exact⟨s',n1,n2,n3,n4,n5,n6,n7,B0,by rw[n8]⟩
  ·have hD0:D=0:=by
    rw[←hD,aMx (by rw[aMd];omega)]
    rfl
   subst hD0
   have w5':dK .shl (.int .u64 0) (.int .u64 32)=some (.int .u64 0):=Gv 0 .u64 (by decide)
   have w6':IntKind.u64.wrap ((0:Int)+(x:Int))=(x:Int):=by rw[Int.zero_add];exact wx
   have w7':=amD x s hs
   simp only[Nat.zero_mod,Nat.zero_mul,aMc] at n3
   simp only[nA,k8,k9,axE,arU,bW,aCr,hlen,e1,e2,e3,wi,wx,w5',w6',w7',wrap32,VX,Nat.reduceEqDiff,Nat.reduceAdd]
   exact⟨s',n1,n2,n3,n4,n5,n6,n7,B0,by rw[n8]⟩
 ·have mH:i=k:=by omega
  subst mH
  rw[aMx (by rw[aMd];omega)] at hv
  simp only[val,Nat.zero_div,aMK,aML] at hv
  simp only[nA,k8,k9,axE,arU,bW,VX,Nat.reduceEqDiff,Nat.reduceAdd]
  exact hQ _ vs k9 B0 HF I9 hv
end Go.PM
namespace Go.PM
theorem Xf {jM vs us ws os:List Nat} {n u2 u1 u0 v1 v0 N k g left:Nat} (G:Ar 4294967296 jM vs n u2 u1 u0 v1 v0) {ρ:cV} {Q:VQ} (hN:us.length=N) (ZH:2≤k) (hkN:k<N) (FH:N≤70368744177664) (hu0:us[k-2]? = some u0)
  (g9:ρ 9 = .ref 0 0 0 N N) (g11:ρ 11=VK .u64 v1) (g12:ρ 12=VK .u64 v0) (g15:ρ 15=VI k) (g17:ρ 17=VK .u64 g) (g18:ρ 18=VK .u64 left) (hh:u2*4294967296+u1=g*v1+left) (hq:val 4294967296 jM / val 4294967296 vs≤g) (hl:left<4294967296) (hgb:g<18446744073709551616)
  (hQ:∀(aQ:cV) (g':Nat),val 4294967296 jM / val 4294967296 vs≤g'→g'≤val 4294967296 jM / val 4294967296 vs+1→g'<4294967296→aQ 17=VK .u64 g'→aQ 8=ρ 8→aQ 9=ρ 9→aQ 10=ρ 10→aQ 11=ρ 11→aQ 12=ρ 12→aQ 13=ρ 13→aQ 14=ρ 14→aQ 15=ρ 15→Q (.exit 2) aQ (H3 us ws os)) :
  VW ⟨true,false⟩ 0 (.loop iD) Q ρ (H3 us ws os):=by
 have lv1:=G.ZF
 have lv0:=G.aoJ
 have lu0:=G.avN
 have qlt:=G.apW
 have lR:=G.pos
 refine aP (fun(t:Nat×Nat) aQ H=>H=H3 us ws os∧u2*4294967296+u1=t.1*v1+t.2∧val 4294967296 jM / val 4294967296 vs≤t.1∧t.2<4294967296∧t.1<18446744073709551616 ∧
  aQ 9 = .ref 0 0 0 N N∧aQ 11=VK .u64 v1∧aQ 12=VK .u64 v0∧aQ 15=VI k∧aQ 17=VK .u64 t.1∧aQ 18=VK .u64 t.2∧aQ 8=ρ 8∧aQ 10=ρ 10∧aQ 13=ρ 13∧aQ 14=ρ 14) (fun t=>4294967296-t.2) (g,left) ⟨rfl,hh,hq,hl,hgb,g9,g11,g12,g15,g17,g18,rfl,rfl,rfl,rfl⟩ ?_
 rintro⟨g,left⟩ tK H ⟨rfl,hh,hq,hl,hgb,k9,k11,KZ,Nx,IE,W2,k8,k10,B0,C3⟩
 simp only at hh hq hl hgb IE W2
 have e1:bJ 1 (.ref 0 0 0 N N) (VI ((k-2:Nat):Int)) (H3 us ws os)=some (.ptr 0 0 (k-2) 0):=by rw[bB E9 (by omega),aMc]
 have e2:bF false 1 (.ptr 0 0 (k-2) 0) (H3 us ws os)=some (uV u0):=kB E9 hu0
 have wk:IntKind.i64.wrap ((k:Int)-2)=((k-2:Nat):Int):=wrapN _ (by omega) (by omega)
 have wu:IntKind.u64.wrap (u0:Int)=(u0:Int):=eT _ (by omega)
 have ws:=Gv left .u64 hl
 have wa:IntKind.u64.wrap (((left*4294967296:Nat):Int)+(u0:Int))=((left*4294967296+u0:Nat):Int):=by rw[←aMP];exact eT _ (by omega)
 have wl:IntKind.u64.wrap ((left:Int)+(v1:Int))=((left+v1:Nat):Int):=by rw[←aMP];exact eT _ (by omega)
 have same:tK 9=ρ 9∧tK 11=ρ 11∧tK 12=ρ 12∧tK 15=ρ 15:=⟨by rw[k9,g9],by rw[k11,g11],by rw[KZ,g12],by rw[Nx,g15]⟩
 obtain⟨s9,s11,s12,s15⟩:=same
 have down:val 4294967296 jM / val 4294967296 vs<g→∃g',g=g'+1∧IntKind.u64.wrap ((g:Int)-1)=(g':Int)∧u2*4294967296+u1=g'*v1+(left+v1)∧val 4294967296 jM / val 4294967296 vs≤g':=by
  intro h
  have hg1:1≤g:=aNa (aK8 _) h
  obtain⟨g',rfl⟩:∃g',g=g'+1:=⟨g-1,by omega⟩
  refine⟨g',rfl,?_,?_,by omega⟩
  ·rw[show ((g'+1:Nat):Int)-1=(g':Int) by omega]
   exact eT _ (by omega)
  ·rw[hh,aK9]
   omega
 by_cases hA:(4294967296:Int)≤(g:Int)
 ·obtain⟨g',hg',wg,Ya,Ob⟩:=down (by omega)
  by_cases hB:(4294967296:Int)≤((left+v1:Nat):Int)
  ·obtain⟨c1,c2⟩:=G.broken Ya (by omega)
   simp only[iD,k9,k11,KZ,Nx,IE,W2,hA,hB,wg,wl,VX,Nat.reduceEqDiff,Nat.reduceAdd]
   exact hQ _ g' Ob (G.acR Ya (by omega) c2) c1 rfl k8 s9 k10 s11 s12 B0 C3 s15
  ·simp only[iD,k9,k11,KZ,Nx,IE,W2,hA,hB,wg,wl,VX,Nat.reduceEqDiff,Nat.reduceAdd]
   exact⟨(g',left+v1),by simp only;omega,Ya,Ob,by simp only;omega,by simp only;omega,by rfl,by rfl,k8,k10,B0,C3⟩
 ·have hgv:g*v0≤4294967295*4294967295:=aMX (by omega) (by omega)
  have wm:IntKind.u64.wrap ((g:Int)*(v0:Int))=((g*v0:Nat):Int):=by rw[←aM4];exact eT _ (by omega)
  by_cases hT:((left*4294967296+u0:Nat):Int)<((g*v0:Nat):Int)
  ·obtain⟨g',hg',wg,Ya,Ob⟩:=down (G.too hh (by omega))
   by_cases hB:(4294967296:Int)≤((left+v1:Nat):Int)
   ·obtain⟨c1,c2⟩:=G.broken Ya (by omega)
    simp only[iD,k9,k11,KZ,Nx,IE,W2,hA,hB,hT,e1,e2,wk,wu,ws,wa,wm,wg,wl,VX,Nat.reduceEqDiff,Nat.reduceAdd]
    exact hQ _ g' Ob (G.acR Ya (by omega) c2) c1 rfl k8 s9 k10 s11 s12 B0 C3 s15
   ·simp only[iD,k9,k11,KZ,Nx,IE,W2,hA,hB,hT,e1,e2,wk,wu,ws,wa,wm,wg,wl,VX,Nat.reduceEqDiff,Nat.reduceAdd]
    exact⟨(g',left+v1),by simp only;omega,Ya,Ob,by simp only;omega,by simp only;omega,by rfl,by rfl,k8,k10,B0,C3⟩
  ·simp only[iD,k9,k11,KZ,Nx,IE,W2,hA,hT,e1,e2,wk,wu,ws,wa,wm,VX,Nat.reduceEqDiff,Nat.reduceAdd]
   exact hQ _ g hq (G.acR hh (by omega) (by omega)) (by omega) IE k8 s9 k10 s11 s12 B0 C3 s15
theorem PQ {X S S' R V q Q P w:Nat} (hs:S=q*V+S') (h:X+P*S+P*w*V*Q=R):X+P*S'+P*V*(q+w*Q)=R:=by
 subst hs
 grind
theorem anV {Hi ws os0 vs:List Nat} {N m n v1 v0 A s:Nat} {ρ:cV} {Q:VQ} (hN:Hi.length=N) (hm:m+(n+2)=N) (FH:N≤70368744177664) (Mz:∀d∈Hi,d<4294967296) (hws:ws.take (n+2)=vs) (hwl:ws.length=n+3) (HF:vs.length=n+2) (I9:∀d∈vs,d<4294967296) (f1:vs[n+1]? = some v1) (f0:vs[n]? = some v0) (lR:1≤v1)
  (hA:val 4294967296 Hi=A) (E2:val 4294967296 (Hi.drop m)<val 4294967296 vs) (gZ:os0.length=m) (nO:∀d∈os0,d<4294967296)
  (g8:ρ 8=VI s) (g9:ρ 9 = .ref 0 0 0 N N) (g10:ρ 10 = .ref 1 0 0 (n+2) (n+3)) (g11:ρ 11=VK .u64 v1) (g12:ρ 12=VK .u64 v0) (g13:ρ 13 = .ref 2 0 0 m m) (g14:ρ 14=VI ((m:Int)-1))
  (hQ:∀(aQ:cV) (us os:List Nat),aQ 8=VI s→aQ 9 = .ref 0 0 0 N N→aQ 13 = .ref 2 0 0 m m→us.length=N→(∀d∈us,d<4294967296)→os.length=m→(∀d∈os,d<4294967296)→val 4294967296 us+val 4294967296 vs*val 4294967296 os=A→val 4294967296 us<val 4294967296 vs→Q (.exit 0) aQ (H3 us ws os)) :
  VW ⟨true,false⟩ 0 (.loop qU) Q ρ (H3 Hi ws os0):=by
 have hVb:=sH I9
 rw[HF] at hVb
 refine aP (fun(t:Nat×List Nat×List Nat) aQ H=>t.1≤m∧H=H3 t.2.1 ws t.2.2∧t.2.1.length=N∧(∀d∈t.2.1,d<4294967296)∧t.2.2.length=m∧(∀d∈t.2.2,d<4294967296)∧val 4294967296 (t.2.1.drop t.1)<val 4294967296 vs∧val 4294967296 t.2.1+4294967296^t.1*val 4294967296 vs*val 4294967296 (t.2.2.drop t.1)=A ∧
  aQ 8=VI s∧aQ 9 = .ref 0 0 0 N N∧aQ 10 = .ref 1 0 0 (n+2) (n+3)∧aQ 11=VK .u64 v1∧aQ 12=VK .u64 v0∧aQ 13 = .ref 2 0 0 m m∧aQ 14=VI ((t.1:Int)-1)) (fun t=>t.1) (m,Hi,os0) ⟨aKE _,rfl,hN,Mz,gZ,nO,E2,by rw[aMx (by simp only;omega)];simpa[val] using hA,g8,g9,g10,g11,g12,g13,g14⟩ ?_
 rintro⟨j,us,os⟩ tK H ⟨hj,rfl,TU,Mz,gZ,nO,bI,hv,k8,k9,k10,k11,KZ,B0,C3⟩
 simp only at hj TU Mz gZ nO bI hv C3
 by_cases hz:(0:Int)≤(j:Int)-1
 ·obtain⟨i,rfl⟩:∃i,j=i+1:=⟨j-1,by omega⟩
  have Ee:((i+1:Nat):Int)-1=(i:Int):=by omega
  rw[Ee] at C3 hz
  obtain⟨Xd,Dq,Td,hsW,aiQ,amH,xQ⟩:=acT (n:=n+2) TU (by omega) Mz hVb bI
  generalize adA:(us.drop i).take (n+2+1)=jM at *
  have Sj:∀d∈jM,d<4294967296:=fun d hd=>by rw[←adA] at hd;exact Mz d (aLC (aLB hd))
  obtain⟨u2,hu2⟩:∃u2,us[i+(n+2)]? = some u2:=⟨_,aKL (by omega)⟩
  obtain⟨u1,hu1⟩:∃u1,us[i+(n+1)]? = some u1:=⟨_,aKL (by omega)⟩
  obtain⟨u0,hu0⟩:∃u0,us[i+n]? = some u0:=⟨_,aKL (by omega)⟩
  have G:Ar 4294967296 jM vs n u2 u1 u0 v1 v0:=⟨by decide,Sj,I9,Td,HF,by rw[xQ _ (by omega)];exact hu2,by rw[xQ _ (by omega)];exact hu1,by rw[xQ _ (by omega)];exact hu0,f1,f0,lR,hsW⟩
  have lu2:=G.auL
  have lu1:=G.anG
  have lv1:=G.ZF
  have qlt:=G.apW
  have Lx:=G.Lx
  have avX:sE (.ref 1 0 0 (n+2) (n+3)) (H3 us ws os)=some (VI ((n+2:Nat):Int)):=eI aAT
  have w1:IntKind.i64.wrap ((i:Int)+((n+2:Nat):Int))=((i+(n+2):Nat):Int):=by rw[←aMP];exact wrapN _ rfl (by omega)
  have w2:IntKind.i64.wrap (((i+(n+2):Nat):Int)-1)=((i+(n+1):Nat):Int):=wrapN _ (by omega) (by omega)
  have e2:bJ 1 (.ref 0 0 0 N N) (VI ((i+(n+2):Nat):Int)) (H3 us ws os)=some (.ptr 0 0 (i+(n+2)) 0):=by rw[bB E9 (by omega),aMc]
  have e1:bJ 1 (.ref 0 0 0 N N) (VI ((i+(n+1):Nat):Int)) (H3 us ws os)=some (.ptr 0 0 (i+(n+1)) 0):=by rw[bB E9 (by omega),aMc]
  have l2:bF false 1 (.ptr 0 0 (i+(n+2)) 0) (H3 us ws os)=some (uV u2):=kB E9 hu2
  have l1:bF false 1 (.ptr 0 0 (i+(n+1)) 0) (H3 us ws os)=some (uV u1):=kB E9 hu1
  have wu2:IntKind.u64.wrap (u2:Int)=(u2:Int):=eT _ (by omega)
  have wu1:IntKind.u64.wrap (u1:Int)=(u1:Int):=eT _ (by omega)
  have ws2:=Gv u2 .u64 lu2
  have wa:IntKind.u64.wrap (((u2*4294967296:Nat):Int)+(u1:Int))=((u2*4294967296+u1:Nat):Int):=by rw[←aMP];exact eT _ (by omega)
  have q1:=ZZ (u2*4294967296+u1) v1 (by omega) lR
  have q2:=S6 (u2*4294967296+u1) v1 lR
  simp only[qU,k8,k9,k10,k11,KZ,B0,C3,hz,avX,w1,w2,e1,e2,l1,l2,wu1,wu2,ws2,wa,q1,q2,VX,Nat.reduceEqDiff,Nat.reduceAdd]
  have hh:=aMN (u2*4294967296+u1) v1
  have hml:=aK6 (u2*4294967296+u1) lR
  have hdl:(u2*4294967296+u1) / v1≤u2*4294967296+u1:=aNb _ _
  have T0:val 4294967296 jM / val 4294967296 vs≤(u2*4294967296+u1) / v1:=by
   have t1:=(Ff (n:=n+1) (xs:=jM) Sj (by omega) (by rw[xQ _ (by omega)];exact hu2) (by rw[xQ _ (by omega)];exact hu1)).2
   have t2:=(Cm (n:=n+1) I9 HF f1).1
   rw[aNc lR]
   have t3:val 4294967296 jM / val 4294967296 vs*(v1*4294967296^(n+1))≤val 4294967296 jM / val 4294967296 vs*val 4294967296 vs:=aMD _ t2
   have t4:=aNd (val 4294967296 jM) (val 4294967296 vs)
   have t5:val 4294967296 jM / val 4294967296 vs*v1*4294967296^(n+1)<(u2*4294967296+u1+1)*4294967296^(n+1):=by rw[aMU];omega
   have:=aME t5
   omega
  refine Xf (k:=i+(n+2)) G TU (by omega) (by omega) FH (by rw[show i+(n+2)-2=i+n by omega];exact hu0) k9 k11 KZ (by rfl) (by rfl) (by rfl) (by rw[aL6 ((u2*4294967296+u1) / v1)];omega) T0 (by omega) (by omega) ?_
  intro wS g' hq Ob hgW r17 r8 r9 r10 r11 r12 r13 r14 r15
  have U7:wS 15=VI ((i+(n+2):Nat):Int):=r15
  have r8':wS 8=VI s:=r8.trans k8
  have r9':wS 9 = .ref 0 0 0 N N:=r9.trans k9
  have avU:wS 10 = .ref 1 0 0 (n+2) (n+3):=r10.trans k10
  have axM:wS 11=VK .u64 v1:=r11.trans k11
  have Vo:wS 12=VK .u64 v0:=r12.trans KZ
  have WO:wS 13 = .ref 2 0 0 m m:=r13.trans B0
  have U9:wS 14=VI i:=r14.trans C3
  have w3:IntKind.i64.wrap (((i+(n+2):Nat):Int)+1)=((i+(n+3):Nat):Int):=wrapN _ (by omega) (by omega)
  have akZ:Hl 1 (.ref 0 0 0 N N) (some (VI i)) (some (VI ((i+(n+3):Nat):Int))) none (H3 us ws os)=some (.ref 0 0 i (n+3) (N-i)):=by
   rw[PF E9 (by omega) (by omega),aMc,Nat.add_sub_cancel_left]
  simp only[r8',r9',avU,axM,Vo,WO,U9,U7,r17,w3,akZ,VX,Nat.reduceEqDiff,Nat.reduceAdd]
  have xE:g'*val 4294967296 vs≤val 4294967296 jM+val 4294967296 vs:=by
   have:=aK5 (val 4294967296 vs) Ob
   rw[aK9,aNe] at this
   have:=aNd (val 4294967296 jM) (val 4294967296 vs)
   omega
  refine fU rfl ((Yr (pre:=us.take i) (jM:=jM) (post:=us.drop (i+(n+2+1))) (L:=n+3) (o:=i) (by rw[←Xd];exact E9) (aAT (us:=us) (ws:=ws) (os:=os)) (by decide) (aK8 _) Dq Td (by omega) hws (by omega) (by omega) Sj I9 hgW xE).mono ?_)
  rintro r H' ⟨uN,rfl,Gd,hd',hr⟩
  generalize arY:us.take i++uN++us.drop (i+(n+2+1))=Ig at *
  have Lp:(H3 us ws os).set 0 (.row 0 (Ig.map uV) 1 true)=H3 Ig ws os:=rfl
  rw[Lp]
  have axU:Ig.length=N:=by rw[←arY,aKP,aKP,Dq,Gd,aM5];omega
  have atM:∀d∈Ig,d<4294967296:=fun d hd=>by
   rw[←arY,aLA,aLA] at hd
   rcases hd with(hd | hd) | hd
   ·exact Mz d (aLB hd)
   ·exact hd' d hd
   ·exact Mz d (aLC hd)
  have YV:Ig.drop i=uN++us.drop (i+(n+2+1)):=by rw[←arY,aMq,List.drop_append,aMx (by omega),Dq];simp
  have YJ:Ig.take i=us.take i:=by rw[←arY,aMq,aNf (by omega),aLx (by omega)]
  have UZ:val 4294967296 (Ig.drop i)=val 4294967296 uN:=by rw[YV,Bh,amH,aMK,aML]
  have digit:∀q:Nat,q=val 4294967296 jM / val 4294967296 vs→val 4294967296 uN=val 4294967296 jM % val 4294967296 vs →
    val 4294967296 (Ig.drop i)<val 4294967296 vs∧val 4294967296 Ig+4294967296^i*val 4294967296 vs*val 4294967296 ((os.set i q).drop i)=A:=by
   rintro q W1 hse
   have aqM:=aK6 (val 4294967296 jM) Lx
   refine⟨by rw[UZ,hse];exact aqM,?_⟩
   have h1:=aNg (val 4294967296 jM) (val 4294967296 vs)
   rw[←W1,←hse,aL6] at h1
   have h2:=tB (b:=4294967296) us i
   have h3:=tB (b:=4294967296) Ig i
   rw[YJ,Dq,UZ] at h3
   rw[Dq,aiQ] at h2
   rw[set_drop (by omega),vS,h3]
   rw[h2,aL5] at hv
   exact PQ h1.symm hv
  have e3:∀d:Nat,bJ 1 (.ref 2 0 0 m m) (VI i) (H3 Ig ws os)=some (.ptr 2 0 i 0)∧bL 0 1 (.ptr 2 0 i 0) (uV d) (H3 Ig ws os)=some (H3 Ig ws (os.set i d)):=fun d=>by
   refine⟨by rw[bB arP (by omega),aMc],?_⟩
   rw[dP (f:=uV) (e:=1) arP (by omega) (aK8 _) rfl rfl]
   rfl
  have wi:IntKind.i64.wrap ((i:Int)-1)=(i:Int)-1:=wrap64 (by omega) (by omega)
  rcases hr with⟨rfl,hr⟩ | ⟨rfl,T1,hr2⟩
  ·have Hp:g'*val 4294967296 vs≤val 4294967296 jM:=by omega
   have W1:g'=val 4294967296 jM / val 4294967296 vs:=by
    have:=(aNc Lx).2 Hp
    omega
   have hse:val 4294967296 uN=val 4294967296 jM % val 4294967296 vs:=by
    have h1:=aNg (val 4294967296 jM) (val 4294967296 vs)
    rw[←W1,aL6] at h1
    omega
   obtain⟨d1,d2⟩:=digit g' W1 hse
   simp only[r8',r9',avU,axM,Vo,WO,U9,U7,r17,(e3 g').1,(e3 g').2,wi,wrap32,aL8 hgW,VX,Nat.reduceEqDiff,Nat.reduceAdd]
   exact⟨(i,Ig,os.set i g'),by simp only;omega,by omega,rfl,axU,atM,by rw[aMC];exact gZ,nW nO hgW,d1,d2,by (repeat' apply aMk)<;>first | rfl | trivial⟩
  ·have aiV:val 4294967296 jM / val 4294967296 vs<g':=(Nat.div_lt_iff_lt_mul Lx).2 T1
   have hg1:1≤g':=aNa (aK8 _) aiV
   obtain⟨q,rfl⟩:∃q,g'=q+1:=⟨g'-1,by omega⟩
   have W1:q=val 4294967296 jM / val 4294967296 vs:=by omega
   have hse:val 4294967296 uN=val 4294967296 jM % val 4294967296 vs:=by
    have h1:=aNg (val 4294967296 jM) (val 4294967296 vs)
    rw[←W1,aL6] at h1
    rw[aK9,aNe] at hr2
    omega
   have wq:IntKind.u64.wrap (((q+1:Nat):Int)-1)=(q:Int):=by rw[show ((q+1:Nat):Int)-1=(q:Int) by omega];exact eT _ (by omega)
   obtain⟨d1,d2⟩:=digit q W1 hse
   simp only[r8',r9',avU,axM,Vo,WO,U9,U7,r17,wq,(e3 q).1,(e3 q).2,wi,wrap32,aL8 (show q<4294967296 by omega),VX,Nat.reduceEqDiff,Nat.reduceAdd]
   exact⟨(i,Ig,os.set i q),by simp only;omega,by omega,rfl,axU,atM,by rw[aMC];exact gZ,nW nO (by omega),d1,d2,by (repeat' apply aMk)<;>first | rfl | trivial⟩
 ·have Xv:j=0:=by omega
  subst Xv
  rw[aLQ] at bI
  rw[Nat.pow_zero,aNe,aLQ] at hv
  simp only[qU,k8,k9,k10,k11,KZ,B0,C3,hz,VX,Nat.reduceEqDiff,Nat.reduceAdd]
  exact hQ _ us os k8 k9 B0 TU Mz gZ nO hv bI
end Go.PM
namespace Go.PM
theorem Pg {a n:Nat} (hn:(aD 4294967296 a).length=n+1):∃d,(aD 4294967296 a)[n]? = some d∧d≠0∧d<4294967296:=by
 obtain⟨d,hd⟩:∃d,(aD 4294967296 a)[n]? = some d:=⟨_,aKL (by omega)⟩
 refine⟨d,hd,fun h0 => ?_,gH (by decide) a d (aLy hd)⟩
 have:=Q2 (b:=4294967296) (by decide) a
 rw[List.getLast?_eq_getElem?,hn,Nat.add_sub_cancel,hd,h0] at this
 exact this rfl
theorem UN {a d:Nat} (h:aD 4294967296 a=[d]):a=d∧0<d∧d<4294967296:=by
 have h1:=cL (b:=4294967296) (by decide) a
 rw[h,val_one] at h1
 obtain⟨e,h2,h3,h4⟩:=Pg (a:=a) (n:=0) (by rw[h];rfl)
 rw[h] at h2
 cases h2
 exact⟨h1.symm,by omega,h4⟩
theorem Bw (a b:Nat) (hb:b≠0) (ha:(aD 4294967296 a).length≤17592186044416) (zD:(aD 4294967296 b).length≤17592186044416):TC 183 [bR a,bR b] (.dW [bR (a / b),bR (a % b)]):=by
 refine TC.walk ⟨true,false⟩ Li rfl (aMs rfl) (by simp[aO,bU]) (by simp[gU,sO,uA]) ?_
 have c1:=lQ a b ha zD
 by_cases IW:gC a b<0
 ·have bI:a<b:=by
   unfold gC at IW
   split at IW
   ·assumption
   ·split at IW<;>omega
  simp only[wX,sW,c1,IW,VX,Nat.reduceEqDiff,Nat.reduceAdd]
  rw[aMb bI,aL8 bI]
  exact bN (d:=6) AI (aM (bU a))
 have Hp:b≤a:=by
  unfold gC at IW
  split at IW
  ·omega
  ·omega
 have hbn:(aD 4294967296 b).length≠0:=fun h=>hb ((nU (b:=4294967296) (by decide)).1 (List.length_eq_zero_iff.1 h))
 by_cases h1:(((aD 4294967296 b).length:Nat):Int)=1
 ·obtain⟨d,hd⟩:∃d,aD 4294967296 b=[d]:=by
   match hx:aD 4294967296 b with
   | []=>rw[hx] at hbn;exact absurd rfl hbn
   | [d]=>exact⟨d,rfl⟩
   | _::_::_=>rw[hx] at h1;simp at h1;omega
  obtain⟨rfl,FD,hdW⟩:=UN hd
  have c2:=Av a b FD hdW ha
  have e0:sE (bR b) []=some (VI 1):=by rw[bR,Dw,eR,hd];rfl
  have e1:bJ 1 (bR b) (VI 0) []=some (.cG (uV b) 0):=by
   rw[bR,hd]
   exact aH (f:=uV) (t := .op) (H:=[]) (size:=1) (k := .i64) (xs:=[b]) (i:=0) rfl rfl
  have e2:=iU (H:=[]) (z:=[.int .u32 0]) (v:=uV (a % b)) rfl rfl rfl
  have e3:=anS (size:=1) (v:=Value.int .u32 ((b:Nat):Int))
  simp only[wX,sW,c1,IW,e0,e1,c2,e2,VX,Nat.reduceEqDiff,Nat.reduceAdd]
  refine Pk (ds:=[a % b]) (t := .cl 1) (fun d hd => ?_) (by show 1≤70368744177664;decide) (val_one _) fun t' ht => ?_
  ·rw[List.mem_singleton] at hd
   subst hd
   exact aKG (aK6 _ FD) (aLl hdW)
  ·simp only[VX,Nat.reduceEqDiff,Nat.reduceAdd]
   exact bN (d:=6) (aM (bU _)) (amP (d:=5) ht)
 obtain⟨n,hn⟩:∃n,(aD 4294967296 b).length=n+2:=⟨(aD 4294967296 b).length-2,by omega⟩
 obtain⟨t,ht,ht0,htW⟩:=Pg (a:=b) (n:=n+1) hn
 obtain⟨s,hs,cl,akA⟩:=YO ht0 htW
 have hS:0<2^s:=Nat.pow_pos (by decide)
 have hSW:2^s*2^(32-s)=4294967296:=by rw[←Nat.pow_add,show s+(32-s)=32 by omega]
 have hla:=eW (b:=4294967296) (by decide) Hp
 have e0:sE (bR b) []=some (VI ((n+2:Nat):Int)):=by rw[bR,Dw,eR,hn]
 have w0:IntKind.i64.wrap (((n+2:Nat):Int)-1)=((n+1:Nat):Int):=wrapN _ (by omega) (by omega)
 have h1':¬(((n+2:Nat):Int)=1):=by omega
 have e1:bJ 1 (bR b) (VI ((n+1:Nat):Int)) []=some (.cG (uV t) 0):=aH (f:=uV) (t := .op) (H:=[]) (size:=1) (k := .i64) ht rfl
 simp only[wX,sW,c1,IW,e0,h1',w0,e1,cl,VX,Nat.reduceEqDiff,Nat.reduceAdd]
 have fa:[bR a,VI (s:Int)].mapM (fz depth ([]:aA))=some [bR a,VI (s:Int)]:=fz2 (aJ (bU a)) (aJ rfl)
 refine FC.call (BO a s hs ha) rfl fa ?_
 rintro r L ⟨K3,rfl,rfl,hAl,hAd,hAv,hAt⟩
 simp only[VX,Nat.reduceEqDiff,Nat.reduceAdd]
 have fb:∀H:aA,[bR b,VI (s:Int)].mapM (fz depth H)=some [bR b,VI (s:Int)]:=fun H=>fz2 (aJ (bU b)) (aJ rfl)
 refine FC.call (BO b s hs zD) rfl (fb _) ?_
 rintro r L ⟨Hj,rfl,rfl,hBl,hBd,hBv,hBt⟩
 rw[hn] at hBl
 simp only[hn,List.length_singleton,VX,Nat.reduceEqDiff,Nat.reduceAdd]
 have ayE:b*2^s<4294967296^(n+2):=by
  have h2:=(Cm (n:=n+1) (gH (b:=4294967296) (by decide) b) hn ht).2
  rw[cL (by decide)] at h2
  have h3:b*2^s<(t+1)*4294967296^(n+1)*2^s:=aM9 h2 hS
  have h4:(t+1)*4294967296^(n+1)*2^s=(t+1)*2^s*4294967296^(n+1):=by grind
  have h5:(t+1)*2^s≤4294967296:=by
   have h6:t*2^s<2^(32-s)*2^s:=by rw[aL6 (2^(32-s)),hSW];exact akA
   have h7:=aME h6
   have h8:(t+1)*2^s≤2^(32-s)*2^s:=aK5 _ h7
   rwa [aL6 (2^(32-s)),hSW] at h8
  have h9:(t+1)*2^s*4294967296^(n+1)≤4294967296*4294967296^(n+1):=aK5 _ h5
  have h10:4294967296*4294967296^(n+1)=4294967296^(n+2):=by rw[aL5 4294967296 (n+1)];exact aL6 _ _
  omega
 have hVl:(aD 4294967296 (b*2^s)).length=n+2:=by
  have h2:=oP (b:=4294967296) (by decide) ayE
  have h3:b≤b*2^s:=Nat.le_mul_of_pos_right b hS
  have h4:=eW (b:=4294967296) (by decide) h3
  omega
 refine vF (rows:=Hj) (m:=b*2^s) (by rfl) (by omega) (by omega) (by omega) (fun d hd=>hBd d (aLB hd)) (by rw[aLx (by omega)];exact hBv) fun k hk he => ?_
 have ZH:k=n+2:=by
  have:=congrArg List.length he
  rw[hVl,aMd] at this
  omega
 subst ZH
 generalize TW:aD 4294967296 (b*2^s)=vs at *
 have I9:∀d∈vs,d<4294967296:=by rw[←TW];exact gH (by decide) _
 have QG:val 4294967296 vs=b*2^s:=by rw[←TW];exact cL (by decide) _
 obtain⟨v1,f1⟩:∃v1,vs[n+1]? = some v1:=⟨_,aKL (by omega)⟩
 obtain⟨v0,f0⟩:∃v0,vs[n]? = some v0:=⟨_,aKL (by omega)⟩
 have hv1:1≤v1:=by
  obtain⟨d,hd,FD,_⟩:=Pg (a:=b*2^s) (n:=n+1) (by rw[TW];exact hVl)
  rw[TW,f1] at hd
  cases hd
  omega
 have b1:Hj[n+1]? = some v1:=by rw[←f1,←he,aK1 (by omega)]
 have b0:Hj[n]? = some v0:=by rw[←f0,←he,aK1 (by omega)]
 have lv1:=I9 v1 (aLy f1)
 have lv0:=I9 v0 (aLy f0)
 have x1:bJ 1 (.ref 1 0 0 (n+2) (n+2+1)) (VI ((n+1:Nat):Int)) [.row 0 (K3.map uV) 1 true,.row 0 (Hj.map uV) 1 true]=some (.ptr 1 0 (n+1) 0):=by rw[bB (by rfl) (by omega),aMc]
 have x0:bJ 1 (.ref 1 0 0 (n+2) (n+2+1)) (VI ((n:Nat):Int)) [.row 0 (K3.map uV) 1 true,.row 0 (Hj.map uV) 1 true]=some (.ptr 1 0 n 0):=by rw[bB (by rfl) (by omega),aMc]
 have y1:bF false 1 (.ptr 1 0 (n+1) 0) [.row 0 (K3.map uV) 1 true,.row 0 (Hj.map uV) 1 true]=some (uV v1):=kB (rows:=Hj) (g:=0) (w:=true) (by rfl) b1
 have y0:bF false 1 (.ptr 1 0 n 0) [.row 0 (K3.map uV) 1 true,.row 0 (Hj.map uV) 1 true]=some (uV v0):=kB (rows:=Hj) (g:=0) (w:=true) (by rfl) b0
 have z0:sE (.ref 1 0 0 (n+2) (n+2+1)) [.row 0 (K3.map uV) 1 true,.row 0 (Hj.map uV) 1 true]=some (VI ((n+2:Nat):Int)):=eI (r:=(Hj.map uV,1,true)) (by rfl)
 have z1:sE (.ref 0 0 0 ((aD 4294967296 a).length+1) ((aD 4294967296 a).length+1)) [.row 0 (K3.map uV) 1 true,.row 0 (Hj.map uV) 1 true]=some (VI (((aD 4294967296 a).length+1:Nat):Int)):=eI (r:=(K3.map uV,1,true)) (by rfl)
 have w2:IntKind.i64.wrap (((n+2:Nat):Int)-2)=((n:Nat):Int):=wrapN _ (by omega) (by omega)
 have wv1:IntKind.u64.wrap (v1:Int)=(v1:Int):=eT _ (by omega)
 have wv0:IntKind.u64.wrap (v0:Int)=(v0:Int):=eT _ (by omega)
 obtain⟨m,hm⟩:∃m,m+(n+2)=(aD 4294967296 a).length+1:=⟨(aD 4294967296 a).length+1-(n+2),by omega⟩
 have wm:IntKind.i64.wrap ((((aD 4294967296 a).length+1:Nat):Int)-((n+2:Nat):Int))=(m:Int):=wrapN _ (by omega) (by omega)
 have wm1:IntKind.i64.wrap ((m:Int)-1)=(m:Int)-1:=wrap64 (by omega) (by omega)
 have mk:=ZT m 0 (by omega) (H:=[.row 0 (K3.map uV) 1 true,.row 0 (Hj.map uV) 1 true])
 have z2:sE (.ref 2 0 0 m m) (H3 K3 Hj (aLu m 0))=some (VI m):=eI (r:=((aLu m 0).map uV,1,true)) (by rfl)
 simp only[w0,x1,x0,y1,y0,z0,z1,w2,wv1,wv0,wm,mk,z2,wm1,List.length_cons,List.length_nil,VX,Nat.reduceEqDiff,Nat.reduceAdd]
 have E2:val 4294967296 (K3.drop m)<val 4294967296 vs:=by
  obtain⟨d,hd⟩:∃d,K3[(aD 4294967296 a).length]? = some d:=⟨_,aKL (by omega)⟩
  have h2:=(Cm (b:=4294967296) (xs:=K3.drop m) (n:=n+1) (t:=d) (fun x hx=>hAd x (aLC hx)) (by rw[aM5];omega) (by rw[aKC,show m+(n+1)=(aD 4294967296 a).length by omega];exact hd)).2
  have h3:=hAt d hd
  have h4:=(Cm (n:=n+1) (gH (b:=4294967296) (by decide) b) hn ht).1
  rw[cL (by decide)] at h4
  have h5:(d+1)*4294967296^(n+1)≤2^s*4294967296^(n+1):=aK5 _ h3
  have h6:1*4294967296^(n+1)≤t*4294967296^(n+1):=aK5 _ (by omega)
  have h7:1*4294967296^(n+1)*2^s≤b*2^s:=aK5 _ (by omega)
  rw[QG]
  rw[aNe,aL6] at h7
  omega
 refine anV (Hi:=K3) (ws:=Hj) (os0:=aLu m 0) (vs:=vs) (N:=(aD 4294967296 a).length+1) (m:=m) (n:=n) (A:=a*2^s) (s:=s) hAl hm (by omega) hAd he hBl hVl I9 f1 f0 hv1 hAv E2 (by simp) (CA (by decide) _) (by rfl) (by rfl) (by rfl) (by rfl) (by rfl) (by rfl) (by rfl) ?_
 intro AS us os r8 r9 r13 TU Mz gZ nO hv bI
 rw[QG] at hv bI
 have hq:val 4294967296 os=a / b:=by
  rw[←Nat.mul_div_mul_right a b hS,←hv,aM6 _ _ (by omega),aMb bI,aMc]
 have hr:val 4294967296 us=a % b*2^s:=by
  rw[←Nat.mul_mod_mul_right,←hv,aM7,aL8 bI]
 simp only[r9,VX,Nat.reduceEqDiff,Nat.reduceAdd]
 refine vF (rows:=us) (m:=a % b*2^s) E9 (by omega) (aKE _) (by omega) (fun d hd=>Mz d (aLB hd)) (by rw[aLx (by omega)];exact hr) fun k hk he2 => ?_
 have z3:sE (.ref 0 0 0 k ((aD 4294967296 a).length+1)) (H3 us Hj os)=some (VI k):=eI E9
 simp only[z3,VX,Nat.reduceEqDiff,Nat.reduceAdd]
 refine acV (us:=us) (k:=k) (N:=(aD 4294967296 a).length+1) (s:=s) (w0:=2^(32-s)) hs hSW TU hk (by omega) Mz r8 (by rfl) (by rfl) (by rfl) ?_
 intro tK Ig q9 q13 axU atM hv'
 have aDm:tK 13 = .ref 2 0 0 m m:=q13.trans r13
 have Gh:val 4294967296 (Ig.take k)=a % b:=by
  rw[hv',he2,cL (by decide),Nat.mul_div_cancel _ hS]
 simp only[q9,aDm,VX,Nat.reduceEqDiff,Nat.reduceAdd]
 refine vF (rows:=os) (m:=a / b) arP (by omega) (aKE _) (by omega) (fun d hd=>nO d (aLB hd)) (by rw[aLx (by omega)];exact hq) fun k2 ZH he3 => ?_
 simp only[q9,VX,Nat.reduceEqDiff,Nat.reduceAdd]
 refine vF (rows:=Ig) (m:=a % b) E9 (by omega) hk (by omega) (fun d hd=>atM d (aLB hd)) Gh fun k3 hk3 he4 => ?_
 simp only[VX,Nat.reduceEqDiff,Nat.reduceAdd]
 exact bN (d:=6) (NN (d:=5) arP (by omega) ZH he3) (NN (d:=5) E9 (by omega) (by omega) he4)
end Go.PM
namespace Go.PM
abbrev H2 (us os:List Nat):aA:=[.row 0 (us.map tV) 1 true,.row 0 (os.map tV) 1 true]
theorem XZ {us os:List Nat}:aG (H2 us os) 0 0=some (us.map tV,1,true):=rfl
theorem aBx {us os:List Nat}:aG (H2 us os) 1 0=some (os.map tV,1,true):=rfl
theorem asK {P a Z:Nat} {y:Int} (h:(a:Int)+(P:Int)*y=(Z:Int)) (ha:a<P) (hZ:Z<P):y=0∧a=Z:=by
 have hy:y=0:=by
  rcases Int.lt_trichotomy y 0 with h1 | h1 | h1
  ·have:(P:Int)*y≤(P:Int)*(-1):=aNh (by omega) (by omega)
   omega
  ·exact h1
  ·have:(P:Int)*1≤(P:Int)*y:=aNh (by omega) (by omega)
   omega
 subst hy
 rw[Int.mul_zero] at h
 exact⟨rfl,by omega⟩
theorem Yq {us:List Nat} {i n N V:Nat} (hN:us.length=N) (bW:i+n<N) (hd:∀d∈us,d<1000000000) (hV:V<1000000000^n) (E2:val 1000000000 (us.drop (i+1))<V) :
  us=us.take i++(us.drop i).take (n+1)++us.drop (i+(n+1))∧(us.take i).length=i∧((us.drop i).take (n+1)).length=n+1∧val 1000000000 ((us.drop i).take (n+1))<1000000000*V∧val 1000000000 (us.drop i)=val 1000000000 ((us.drop i).take (n+1))∧val 1000000000 (us.drop (i+(n+1)))=0∧∀j,j<n+1→((us.drop i).take (n+1))[j]? = us[i+j]? := by
 obtain⟨x,hx⟩:∃x,us[i]? = some x:=⟨_,aKL (by omega)⟩
 have lx:=hd x (aLy hx)
 have h1:=wD (b:=1000000000) hx
 have h2:val 1000000000 (us.drop i)<1000000000*V:=by
  have:1000000000*(val 1000000000 (us.drop (i+1))+1)≤1000000000*V:=aMD _ E2
  omega
 have h3:=tB (b:=1000000000) (us.drop i) (n+1)
 have h4:((us.drop i).take (n+1)).length=n+1:=by rw[aMd,aM5];omega
 rw[h4,aLE] at h3
 have h5:val 1000000000 (us.drop (i+(n+1)))=0:=by
  rcases Nat.eq_zero_or_pos (val 1000000000 (us.drop (i+(n+1)))) with h | h
  ·exact h
  ·have h6:1000000000^(n+1)*1≤1000000000^(n+1)*val 1000000000 (us.drop (i+(n+1))):=aMD _ h
   have h7:1000000000*V≤1000000000^(n+1):=by rw[aL5,aL6];exact aK5 _ (by omega)
   omega
 rw[h5,aMK,aML] at h3
 refine⟨?_,by rw[aMd];omega,h4,by omega,h3,h5,fun j hj => ?_⟩
 ·rw[aMq,←aLE,aLN,aLN]
 ·rw[aK1 hj,aKC]
theorem leT {g:Nat} (h:(1000000000:Int)≤(g:Int)):1000000000≤g:=by omega
theorem amF {g:Nat} (h:¬(1000000000:Int)≤(g:Int)):g<1000000000:=by omega
theorem ltC {a b:Nat} (h:(a:Int)<(b:Int)):a<b:=by omega
theorem aDi {a b:Nat} (h:¬(a:Int)<(b:Int)):b≤a:=by omega
theorem Ro {a:Nat} (h:a*1000000000≤9223372036854775807):IntKind.i64.wrap ((a:Int)*1000000000)=((a*1000000000:Nat):Int):=wrapN _ (by omega) h
theorem QN {a b:Nat} (h:a+b≤9223372036854775807):IntKind.i64.wrap ((a:Int)+(b:Int))=((a+b:Nat):Int):=wrapN _ (by omega) h
theorem abV {a b:Nat} (h:a*b≤9223372036854775807):IntKind.i64.wrap ((a:Int)*(b:Int))=((a*b:Nat):Int):=wrapN _ (by simp) h
theorem x17 {a:Nat} (h:a<1000000000):a*1000000000≤9223372036854775807:=by omega
theorem x18 {a b:Nat} (h:a<1000000000) (hb:b<1000000000):a*1000000000+b≤1000000000000000000:=by omega
theorem VM {jM vs us os:List Nat} {n u2 u1 u0 v1 v0 N i g left:Nat} (G:Ar 1000000000 jM vs n u2 u1 u0 v1 v0) {ρ:cV} {Q:VQ} (hN:us.length=N) (hiN:i+(n+2)<N) (FH:N≤70368744177664) (hu0:us[i+n]? = some u0)
  (g13:ρ 13 = .ref 0 0 0 N N) (g14:ρ 14=jJ vs) (g15:ρ 15=VI ((n+2:Nat):Int)) (g17:ρ 17=VI i) (g19:ρ 19=VI g) (g20:ρ 20=VI left) (hh:u2*1000000000+u1=g*v1+left) (hq:val 1000000000 jM / val 1000000000 vs≤g) (hl:left<1000000000) (hgb:g≤1000000000000000000)
  (hQ:∀(aQ:cV) (g':Nat),val 1000000000 jM / val 1000000000 vs≤g'→g'≤val 1000000000 jM / val 1000000000 vs+1→g'<1000000000→aQ 19=VI g'→aQ 12=ρ 12→aQ 13=ρ 13→aQ 14=ρ 14→aQ 15=ρ 15→aQ 16=ρ 16→aQ 17=ρ 17→Q (.exit 2) aQ (H2 us os)) :
  VW ⟨true,false⟩ 0 (.loop iH) Q ρ (H2 us os):=by
 have lv1:=G.ZF
 have lv0:=G.aoJ
 have lu0:=G.avN
 have qlt:=G.apW
 have lR:=G.pos
 have HF:=G.O6
 refine aP (fun(t:Nat×Nat) aQ H=>H=H2 us os∧u2*1000000000+u1=t.1*v1+t.2∧val 1000000000 jM / val 1000000000 vs≤t.1∧t.2<1000000000∧t.1≤1000000000000000000 ∧
  aQ 13 = .ref 0 0 0 N N∧aQ 14=jJ vs∧aQ 15=VI ((n+2:Nat):Int)∧aQ 17=VI i∧aQ 19=VI t.1∧aQ 20=VI t.2∧aQ 12=ρ 12∧aQ 16=ρ 16) (fun t=>1000000000-t.2) (g,left) ⟨rfl,hh,hq,hl,hgb,g13,g14,g15,g17,g19,g20,rfl,rfl⟩ ?_
 rintro⟨g,left⟩ tK H ⟨rfl,hh,hq,hl,hgb,B0,C3,Nx,IE,k19,k20,KZ,k16⟩
 simp only at hh hq hl hgb k19 k20
 have f1:bJ 1 (jJ vs) (VI ((n+1:Nat):Int)) (H2 us os)=some (.cG (tV v1) 0):=aH (f:=tV) (t := .op) (size:=1) (k := .i64) G.f1 rfl
 have f0:bJ 1 (jJ vs) (VI (n:Int)) (H2 us os)=some (.cG (tV v0) 0):=aH (f:=tV) (t := .op) (size:=1) (k := .i64) G.f0 rfl
 have wn2:IntKind.i64.wrap (((n+2:Nat):Int)-2)=(n:Int):=wrapN _ (by omega) (by omega)
 have wn1:IntKind.i64.wrap (((n+2:Nat):Int)-1)=((n+1:Nat):Int):=wrapN _ (by omega) (by omega)
 have wi:IntKind.i64.wrap ((i:Int)+((n+2:Nat):Int))=((i+(n+2):Nat):Int):=wrapN _ (by omega) (by omega)
 have wi2:IntKind.i64.wrap (((i+(n+2):Nat):Int)-2)=((i+n:Nat):Int):=wrapN _ (by omega) (by omega)
 have e1:bJ 1 (.ref 0 0 0 N N) (VI ((i+n:Nat):Int)) (H2 us os)=some (.ptr 0 0 (i+n) 0):=by rw[bB XZ (by omega),aMc]
 have e2:bF false 1 (.ptr 0 0 (i+n) 0) (H2 us os)=some (VI (u0:Int)):=Pp XZ hu0
 have wl:IntKind.i64.wrap ((left:Int)+(v1:Int))=((left+v1:Nat):Int):=wrapN _ (by omega) (by omega)
 have down:val 1000000000 jM / val 1000000000 vs<g→∃g',g=g'+1∧IntKind.i64.wrap ((g:Int)-1)=(g':Int)∧u2*1000000000+u1=g'*v1+(left+v1)∧val 1000000000 jM / val 1000000000 vs≤g':=by
  intro h
  have hg1:1≤g:=aNa (aK8 _) h
  obtain⟨g',rfl⟩:∃g',g=g'+1:=⟨g-1,by omega⟩
  refine⟨g',rfl,wrapN _ (by omega) (by omega),?_,by omega⟩
  rw[hh,aK9]
  omega
 have hmu:∀g':Nat,left+v1<1000000000→1000000000-(g',left+v1).2<1000000000-(g,left).2:=fun g' h=>by
  show 1000000000-(left+v1)<1000000000-left
  omega
 have hle:∀g':Nat,g=g'+1→g'≤1000000000000000000:=fun g' h=>by
  omega
 have aFx:left*1000000000+u0≤9223372036854775807:=aKF (x18 hl lu0) (by decide)
 have aEx:left*1000000000≤9223372036854775807:=x17 hl
 have ws:IntKind.i64.wrap ((left:Int)*1000000000)=((left*1000000000:Nat):Int):=Ro aEx
 have wa:IntKind.i64.wrap (((left*1000000000:Nat):Int)+(u0:Int))=((left*1000000000+u0:Nat):Int):=QN aFx
 obtain⟨s13,s14,s15,s17⟩:tK 13=ρ 13∧tK 14=ρ 14∧tK 15=ρ 15∧tK 17=ρ 17:=⟨by rw[B0,g13],by rw[C3,g14],by rw[Nx,g15],by rw[IE,g17]⟩
 by_cases hA:(1000000000:Int)≤(g:Int)
 ·have hA':=leT hA
  obtain⟨g',hg',wg,Ya,Ob⟩:=down (aKG qlt hA')
  by_cases hB:(1000000000:Int)≤((left+v1:Nat):Int)
  ·obtain⟨c1,c2⟩:=G.broken Ya (leT hB)
   simp only[iH,B0,C3,Nx,IE,k19,k20,hA,hB,f1,wn1,wg,wl,VX,Nat.reduceEqDiff,Nat.reduceAdd]
   exact hQ _ g' Ob (G.acR Ya (aLl c1) c2) c1 rfl KZ s13 s14 s15 k16 s17
  ·simp only[iH,B0,C3,Nx,IE,k19,k20,hA,hB,f1,wn1,wg,wl,VX,Nat.reduceEqDiff,Nat.reduceAdd]
   refine⟨(g',left+v1),hmu g' (amF hB),Ya,Ob,amF hB,hle g' hg',?_⟩
   exact⟨rfl,rfl,KZ,k16⟩
 ·have hA':=amF hA
  have hgv:g*v0≤999999999*999999999:=aMX (Nat.le_of_lt_succ hA') (Nat.le_of_lt_succ lv0)
  have wm:IntKind.i64.wrap ((g:Int)*(v0:Int))=((g*v0:Nat):Int):=abV (aKF hgv (by decide))
  by_cases hT:((left*1000000000+u0:Nat):Int)<((g*v0:Nat):Int)
  ·obtain⟨g',hg',wg,Ya,Ob⟩:=down (G.too hh (ltC hT))
   by_cases hB:(1000000000:Int)≤((left+v1:Nat):Int)
   ·obtain⟨c1,c2⟩:=G.broken Ya (leT hB)
    simp only[iH,B0,C3,Nx,IE,k19,k20,hA,hB,hT,f1,f0,e1,e2,wn1,wn2,wi,wi2,ws,wa,wm,wg,wl,VX,Nat.reduceEqDiff,Nat.reduceAdd]
    exact hQ _ g' Ob (G.acR Ya (aLl c1) c2) c1 rfl KZ s13 s14 s15 k16 s17
   ·simp only[iH,B0,C3,Nx,IE,k19,k20,hA,hB,hT,f1,f0,e1,e2,wn1,wn2,wi,wi2,ws,wa,wm,wg,wl,VX,Nat.reduceEqDiff,Nat.reduceAdd]
    refine⟨(g',left+v1),hmu g' (amF hB),Ya,Ob,amF hB,hle g' hg',?_⟩
    exact⟨rfl,rfl,KZ,k16⟩
  ·simp only[iH,B0,C3,Nx,IE,k19,k20,hA,hT,f0,e1,e2,wn2,wi,wi2,ws,wa,wm,VX,Nat.reduceEqDiff,Nat.reduceAdd]
   exact hQ _ g hq (G.acR hh (aLl hA') (aDi hT)) hA' k19 KZ s13 s14 s15 k16 s17
theorem R8 {Hi os0 vs:List Nat} {N m n v1 v0 A s:Nat} {ρ:cV} {Q:VQ} (hN:Hi.length=N) (hm:m+(n+2)=N) (FH:N≤70368744177664) (Mz:∀d∈Hi,d<1000000000) (HF:vs.length=n+2) (I9:∀d∈vs,d<1000000000) (f1:vs[n+1]? = some v1) (f0:vs[n]? = some v0) (lR:1≤v1)
  (hA:val 1000000000 Hi=A) (E2:val 1000000000 (Hi.drop m)<val 1000000000 vs) (gZ:os0.length=m) (nO:∀d∈os0,d<1000000000)
  (g12:ρ 12=VI s) (g13:ρ 13 = .ref 0 0 0 N N) (g14:ρ 14=jJ vs) (g15:ρ 15=VI ((n+2:Nat):Int)) (g16:ρ 16 = .ref 1 0 0 m m) (g17:ρ 17=VI ((m:Int)-1))
  (hQ:∀(aQ:cV) (us os:List Nat),aQ 12=VI s→aQ 13 = .ref 0 0 0 N N→aQ 16 = .ref 1 0 0 m m→us.length=N→(∀d∈us,d<1000000000)→os.length=m→(∀d∈os,d<1000000000)→val 1000000000 us+val 1000000000 vs*val 1000000000 os=A→val 1000000000 us<val 1000000000 vs→Q (.exit 0) aQ (H2 us os)) :
  VW ⟨true,false⟩ 0 (.loop kI) Q ρ (H2 Hi os0):=by
 have hVb:=sH I9
 rw[HF] at hVb
 refine aP (fun(t:Nat×List Nat×List Nat) aQ H=>t.1≤m∧H=H2 t.2.1 t.2.2∧t.2.1.length=N∧(∀d∈t.2.1,d<1000000000)∧t.2.2.length=m∧(∀d∈t.2.2,d<1000000000)∧val 1000000000 (t.2.1.drop t.1)<val 1000000000 vs∧val 1000000000 t.2.1+1000000000^t.1*val 1000000000 vs*val 1000000000 (t.2.2.drop t.1)=A ∧
  aQ 12=VI s∧aQ 13 = .ref 0 0 0 N N∧aQ 14=jJ vs∧aQ 15=VI ((n+2:Nat):Int)∧aQ 16 = .ref 1 0 0 m m∧aQ 17=VI ((t.1:Int)-1)) (fun t=>t.1) (m,Hi,os0) ⟨aKE _,rfl,hN,Mz,gZ,nO,E2,by rw[aMx (by simp only;omega)];simpa[val] using hA,g12,g13,g14,g15,g16,g17⟩ ?_
 rintro⟨j,us,os⟩ tK H ⟨hj,rfl,TU,Mz,gZ,nO,bI,hv,KZ,B0,C3,Nx,k16,IE⟩
 simp only at hj TU Mz gZ nO bI hv IE
 by_cases hz:(0:Int)≤(j:Int)-1
 ·obtain⟨i,rfl⟩:∃i,j=i+1:=⟨j-1,by omega⟩
  have Ee:((i+1:Nat):Int)-1=(i:Int):=by omega
  rw[Ee] at IE hz
  obtain⟨Xd,Dq,Td,hsW,aiQ,amH,xQ⟩:=Yq (n:=n+2) TU (by omega) Mz hVb bI
  generalize adA:(us.drop i).take (n+2+1)=jM at *
  have Sj:∀d∈jM,d<1000000000:=fun d hd=>by rw[←adA] at hd;exact Mz d (aLC (aLB hd))
  obtain⟨u2,hu2⟩:∃u2,us[i+(n+2)]? = some u2:=⟨_,aKL (by omega)⟩
  obtain⟨u1,hu1⟩:∃u1,us[i+(n+1)]? = some u1:=⟨_,aKL (by omega)⟩
  obtain⟨u0,hu0⟩:∃u0,us[i+n]? = some u0:=⟨_,aKL (by omega)⟩
  have G:Ar 1000000000 jM vs n u2 u1 u0 v1 v0:=⟨by decide,Sj,I9,Td,HF,by rw[xQ _ (by omega)];exact hu2,by rw[xQ _ (by omega)];exact hu1,by rw[xQ _ (by omega)];exact hu0,f1,f0,lR,hsW⟩
  have lu2:=G.auL
  have lu1:=G.anG
  have lv1:=G.ZF
  have qlt:=G.apW
  have Lx:=G.Lx
  have w1:IntKind.i64.wrap ((i:Int)+((n+2:Nat):Int))=((i+(n+2):Nat):Int):=wrapN _ (by omega) (by omega)
  have w2:IntKind.i64.wrap (((i+(n+2):Nat):Int)-1)=((i+(n+1):Nat):Int):=wrapN _ (by omega) (by omega)
  have wn1:IntKind.i64.wrap (((n+2:Nat):Int)-1)=((n+1:Nat):Int):=wrapN _ (by omega) (by omega)
  have ev1:bJ 1 (jJ vs) (VI ((n+1:Nat):Int)) (H2 us os)=some (.cG (tV v1) 0):=aH (f:=tV) (t := .op) (size:=1) (k := .i64) f1 rfl
  have e2:bJ 1 (.ref 0 0 0 N N) (VI ((i+(n+2):Nat):Int)) (H2 us os)=some (.ptr 0 0 (i+(n+2)) 0):=by rw[bB XZ (by omega),aMc]
  have e1:bJ 1 (.ref 0 0 0 N N) (VI ((i+(n+1):Nat):Int)) (H2 us os)=some (.ptr 0 0 (i+(n+1)) 0):=by rw[bB XZ (by omega),aMc]
  have l2:bF false 1 (.ptr 0 0 (i+(n+2)) 0) (H2 us os)=some (VI (u2:Int)):=Pp XZ hu2
  have l1:bF false 1 (.ptr 0 0 (i+(n+1)) 0) (H2 us os)=some (VI (u1:Int)):=Pp XZ hu1
  have aEd:u2*1000000000+u1≤1000000000000000000:=x18 lu2 lu1
  have aE4:u2*1000000000≤9223372036854775807:=x17 lu2
  have aCi:u2*1000000000+u1≤9223372036854775807:=aKF aEd (by decide)
  have ws2:IntKind.i64.wrap ((u2:Int)*1000000000)=((u2*1000000000:Nat):Int):=Ro aE4
  have wa:IntKind.i64.wrap (((u2*1000000000:Nat):Int)+(u1:Int))=((u2*1000000000+u1:Nat):Int):=QN aCi
  have q1:=ND (u2*1000000000+u1) v1 aCi lR
  have q2:=Pw (u2*1000000000+u1) v1 lR
  simp only[kI,KZ,B0,C3,Nx,k16,IE,hz,w1,w2,wn1,ev1,e1,e2,l1,l2,ws2,wa,q1,q2,VX,Nat.reduceEqDiff,Nat.reduceAdd]
  clear ws2 wa q1 q2 e1 e2 l1 l2 ev1 w1 w2 wn1
  have hh:=aMN (u2*1000000000+u1) v1
  have hml:=aK6 (u2*1000000000+u1) lR
  have hdl:(u2*1000000000+u1) / v1≤u2*1000000000+u1:=aNb _ _
  have T0:val 1000000000 jM / val 1000000000 vs≤(u2*1000000000+u1) / v1:=by
   have t1:=(Ff (n:=n+1) (xs:=jM) Sj (by omega) (by rw[xQ _ (by omega)];exact hu2) (by rw[xQ _ (by omega)];exact hu1)).2
   have t2:=(Cm (n:=n+1) I9 HF f1).1
   rw[aNc lR]
   have t3:val 1000000000 jM / val 1000000000 vs*(v1*1000000000^(n+1))≤val 1000000000 jM / val 1000000000 vs*val 1000000000 vs:=aMD _ t2
   have t4:=aNd (val 1000000000 jM) (val 1000000000 vs)
   have t5:val 1000000000 jM / val 1000000000 vs*v1*1000000000^(n+1)<(u2*1000000000+u1+1)*1000000000^(n+1):=by rw[aMU];omega
   have:=aME t5
   omega
  generalize hQ1:(u2*1000000000+u1) / v1=g0 at *
  generalize hQ2:(u2*1000000000+u1) % v1=l0 at *
  refine VM (i:=i) G TU (by omega) FH hu0 B0 C3 Nx IE (by rfl) (by rfl) (by rw[aL6 g0];omega) T0 (by omega) (by omega) ?_
  intro wS g' hq Ob hgW r19 r12 r13 r14 r15 r16 r17
  have Vo:wS 12=VI s:=r12.trans KZ
  have WO:wS 13 = .ref 0 0 0 N N:=r13.trans B0
  have U9:wS 14=jJ vs:=r14.trans C3
  have U7:wS 15=VI ((n+2:Nat):Int):=r15.trans Nx
  have apH:wS 16 = .ref 1 0 0 m m:=r16.trans k16
  have apJ:wS 17=VI i:=r17.trans IE
  simp only[Vo,WO,U9,U7,apH,apJ,r19,VX,Nat.reduceEqDiff,Nat.reduceAdd]
  have xE:g'*val 1000000000 vs≤val 1000000000 jM+val 1000000000 vs:=by
   have:=aK5 (val 1000000000 vs) Ob
   rw[aK9,aNe] at this
   have:=aNd (val 1000000000 jM) (val 1000000000 vs)
   omega
  obtain⟨low,axF⟩:∃low,low=jM.take (n+2):=⟨_,rfl⟩
  have hll:low.length=n+2:=by rw[axF,aMd];omega
  have hld:∀d∈low,d<1000000000:=fun d hd=>Sj d (by rw[axF] at hd;exact aLB hd)
  have hsg:jM=low++[u2]:=by
   have h1:jM[n+2]? = some u2:=by rw[xQ _ (by omega)];exact hu2
   have h2:=aLN (n+2) jM
   have h3:=(aKD.1 h1)
   rw[List.drop_eq_getElem_cons h3.1,h3.2,aMx (by omega),←axF] at h2
   exact h2.symm
  have TW:val 1000000000 jM=val 1000000000 low+1000000000^(n+2)*u2:=by rw[hsg,vO,hll]
  have mA:∀(lw:List Nat) (t:Nat),(us.take i).map tV++lw.map tV++VI (t:Int)::(us.drop (i+(n+2+1))).map tV=(us.take i++(lw++[t])++us.drop (i+(n+2+1))).map tV:=fun lw t=>by simp
  have Kk:aG (H2 us os) 0 0=some ((us.take i).map tV++low.map tV++VI (u2:Int)::(us.drop (i+(n+2+1))).map tV,1,true):=by
   rw[mA,←hsg,←Xd]
   rfl
  refine fU rfl ((aeF (o:=i) (n:=n+2) Kk (aK8 _) (by simpa using Dq) hll HF (by omega) FH hld I9 hgW lu2).mono ?_)
  rintro r H' ⟨DG,c,rfl,Gd,hd',hc,hr,hE⟩
  have aGk:val 1000000000 low<1000000000^(n+2):=by have:=sH hld;rwa [hll] at this
  have aEh:val 1000000000 DG<1000000000^(n+2):=by have:=sH hd';rwa [Gd] at this
  have rows:∀(lw:List Nat) (t q:Nat),lw.length=n+2→(∀d∈lw,d<1000000000)→t<1000000000→q=val 1000000000 jM / val 1000000000 vs→val 1000000000 lw+1000000000^(n+2)*t=val 1000000000 jM % val 1000000000 vs →
    ((us.take i++(lw++[t])++us.drop (i+(n+2+1))).length=N∧(∀d∈us.take i++(lw++[t])++us.drop (i+(n+2+1)),d<1000000000)∧val 1000000000 ((us.take i++(lw++[t])++us.drop (i+(n+2+1))).drop i)<val 1000000000 vs∧val 1000000000 (us.take i++(lw++[t])++us.drop (i+(n+2+1)))+1000000000^i*val 1000000000 vs*val 1000000000 ((os.set i q).drop i)=A):=by
   intro lw t q hlw aDt ht W1 hse
   have auN:val 1000000000 (lw++[t])=val 1000000000 jM % val 1000000000 vs:=by rw[vO,hlw];exact hse
   have aDk:(lw++[t]).length=n+3:=by rw[aKP,hlw];rfl
   have aFt:∀d∈lw++[t],d<1000000000:=fun d hd=>by
    rcases aLA.1 hd with h | h
    ·exact aDt d h
    ·rw[List.mem_singleton.1 h];exact ht
   generalize lw++[t]=uN at *
   have aqM:=aK6 (val 1000000000 jM) Lx
   have YV:(us.take i++uN++us.drop (i+(n+2+1))).drop i=uN++us.drop (i+(n+2+1)):=by rw[aMq,List.drop_append,aMx (by omega),Dq];simp
   have YJ:(us.take i++uN++us.drop (i+(n+2+1))).take i=us.take i:=by rw[aMq,aNf (by omega),aLx (by omega)]
   have UZ:val 1000000000 ((us.take i++uN++us.drop (i+(n+2+1))).drop i)=val 1000000000 uN:=by rw[YV,Bh,amH,aMK,aML]
   refine⟨by rw[aKP,aKP,Dq,aDk,aM5];omega,fun d hd => ?_,by rw[UZ,auN];exact aqM,?_⟩
   ·rw[aLA,aLA] at hd
    rcases hd with(hd | hd) | hd
    ·exact Mz d (aLB hd)
    ·exact aFt d hd
    ·exact Mz d (aLC hd)
   ·have h1:=aNg (val 1000000000 jM) (val 1000000000 vs)
    rw[←W1,←auN,aL6] at h1
    have h2:=tB (b:=1000000000) us i
    have h3:=tB (b:=1000000000) (us.take i++uN++us.drop (i+(n+2+1))) i
    rw[YJ,Dq,UZ] at h3
    rw[Dq,aiQ] at h2
    rw[set_drop (by omega),vS,h3]
    rw[h2,aL5] at hv
    exact PQ h1.symm hv
  have e3:∀(Ig:List Nat) (d:Nat),bJ 1 (.ref 1 0 0 m m) (VI i) (H2 Ig os)=some (.ptr 1 0 i 0)∧bL 0 1 (.ptr 1 0 i 0) (VI (d:Int)) (H2 Ig os)=some (H2 Ig (os.set i d)):=fun Ig d=>by
   refine⟨by rw[bB aBx (by omega),aMc],?_⟩
   rw[show VI (d:Int)=tV d from rfl,dP (f:=tV) (e:=1) aBx (by omega) (aK8 _) rfl rfl]
   rfl
  have wi:IntKind.i64.wrap ((i:Int)-1)=(i:Int)-1:=wrap64 (by omega) (by omega)
  have hdm:=aNg (val 1000000000 jM) (val 1000000000 vs)
  have aqM:=aK6 (val 1000000000 jM) Lx
  generalize hPP:1000000000^(n+2)=P at *
  by_cases mK:(u2:Int)-(c:Int)<0
  ·
   rw[decide_eq_true mK] at hr
   subst hr
   have hgt:val 1000000000 jM<g'*val 1000000000 vs:=by
    have h1:P*(u2+1)≤P*c:=aMD _ (by omega)
    rw[aM3,Nat.mul_one] at h1
    omega
   have W1:g'=val 1000000000 jM / val 1000000000 vs+1:=by
    rcases Nat.lt_or_ge (val 1000000000 jM / val 1000000000 vs) g' with h | h
    ·omega
    ·have h1:g'*val 1000000000 vs≤val 1000000000 jM / val 1000000000 vs*val 1000000000 vs:=aK5 _ h
     have:=aNd (val 1000000000 jM) (val 1000000000 vs)
     omega
   have hg1:1≤g':=by rw[W1];exact Nat.le_add_left 1 _
   have wg:IntKind.i64.wrap ((g':Int)-1)=((g'-1:Nat):Int):=wrapN _ (by omega) (by omega)
   simp only[Vo,WO,U9,U7,apH,apJ,r19,wg,VX,Nat.reduceEqDiff,Nat.reduceAdd]
   have T1:aG ((H2 us os).set 0 (.row 0 ((us.take i).map tV++DG.map tV++VI ((u2:Int)-(c:Int))::(us.drop (i+(n+2+1))).map tV) 1 true)) 0 0=some ((us.take i).map tV++DG.map tV++VI ((u2:Int)-(c:Int))::(us.drop (i+(n+2+1))).map tV,1,true):=rfl
   refine fU rfl ((aeD (o:=i) (n:=n+2) T1 (aK8 _) (by simpa using Dq) Gd HF (by omega) FH hd' I9 (by omega) (by omega)).mono ?_)
   rintro r H' ⟨X3,c2,rfl,Jl,hd2,hc2,hE2⟩
   rw[hPP] at hE2
   have azB:val 1000000000 X3<P:=by have:=sH hd2;rwa [Jl,hPP] at this
   obtain⟨hy,hZ⟩:(u2:Int)-(c:Int)+(c2:Int)=0∧val 1000000000 X3=val 1000000000 jM % val 1000000000 vs:=by
    refine asK (P:=P) ?_ azB (by omega)
    have i1:(P:Int)*((u2:Int)-(c:Int)+(c2:Int))=(P:Int)*u2-(P:Int)*c+(P:Int)*c2:=by rw[Int.mul_add,Int.mul_sub]
    have i2:((P*u2:Nat):Int)=(P:Int)*u2:=by simp
    have i3:((P*c:Nat):Int)=(P:Int)*c:=by simp
    have i4:((P*c2:Nat):Int)=(P:Int)*c2:=by simp
    rw[i1,←i2,←i3,←i4]
    have i5:g'*val 1000000000 vs=val 1000000000 vs*(val 1000000000 jM / val 1000000000 vs)+val 1000000000 vs:=by rw[W1,aK9,aNe,aL6 (val 1000000000 vs)]
    omega
   have Lp:((H2 us os).set 0 (.row 0 ((us.take i).map tV++DG.map tV++VI ((u2:Int)-(c:Int))::(us.drop (i+(n+2+1))).map tV) 1 true)).set 0 (.row 0 ((us.take i).map tV++X3.map tV++VI ((u2:Int)-(c:Int)+(c2:Int))::(us.drop (i+(n+2+1))).map tV) 1 true)=H2 (us.take i++(X3++[0])++us.drop (i+(n+2+1))) os:=by
    rw[hy]
    rw[show (0:Int)=((0:Nat):Int) from rfl,mA]
    rfl
   rw[Lp]
   obtain⟨x1,x2⟩:=e3 (us.take i++(X3++[0])++us.drop (i+(n+2+1))) (g'-1)
   obtain⟨y1,y2,y3,y4⟩:=rows X3 0 (g'-1) Jl hd2 (by decide) (by rw[W1,Nat.add_sub_cancel]) (by rw[aMK,aML];exact hZ)
   simp only[Vo,WO,U9,U7,apH,apJ,x1,x2,wi,VX,Nat.reduceEqDiff,Nat.reduceAdd]
   refine⟨(i,us.take i++(X3++[0])++us.drop (i+(n+2+1)),os.set i (g'-1)),by simp only;omega,by omega,rfl,y1,y2,by rw[aMC];exact gZ,nW nO (by omega),y3,y4,?_⟩
   try (repeat' apply aMk)<;>first | rfl | trivial
  ·rw[decide_eq_false mK] at hr
   subst hr
   obtain⟨t',ht'⟩:∃t':Nat,(u2:Int)-(c:Int)=(t':Int):=⟨u2-c,by omega⟩
   have hP1:P*u2=P*c+P*t':=by rw[←aM3];congr 1;omega
   have Hp:g'*val 1000000000 vs≤val 1000000000 jM:=by omega
   have W1:g'=val 1000000000 jM / val 1000000000 vs:=by
    have:=(aNc Lx).2 Hp
    omega
   have Lp:(H2 us os).set 0 (.row 0 ((us.take i).map tV++DG.map tV++VI ((u2:Int)-(c:Int))::(us.drop (i+(n+2+1))).map tV) 1 true)=H2 (us.take i++(DG++[t'])++us.drop (i+(n+2+1))) os:=by
    rw[ht',mA]
    rfl
   rw[Lp]
   obtain⟨x1,x2⟩:=e3 (us.take i++(DG++[t'])++us.drop (i+(n+2+1))) g'
   have hse:val 1000000000 DG+P*t'=val 1000000000 jM % val 1000000000 vs:=by
    rw[←W1,aL6] at hdm
    omega
   obtain⟨y1,y2,y3,y4⟩:=rows DG t' g' Gd hd' (by omega) W1 hse
   simp only[Vo,WO,U9,U7,apH,apJ,r19,x1,x2,wi,VX,Nat.reduceEqDiff,Nat.reduceAdd]
   refine⟨(i,us.take i++(DG++[t'])++us.drop (i+(n+2+1)),os.set i g'),by simp only;omega,by omega,rfl,y1,y2,by rw[aMC];exact gZ,nW nO (by omega),y3,y4,?_⟩
   try (repeat' apply aMk)<;>first | rfl | trivial
 ·have Xv:j=0:=by omega
  subst Xv
  rw[Nat.pow_zero,aNe,aLQ] at hv
  rw[aLQ] at bI
  simp only[kI,KZ,B0,C3,Nx,k16,IE,hz,VX,Nat.reduceEqDiff,Nat.reduceAdd]
  exact hQ _ us os KZ B0 k16 TU Mz gZ nO hv bI
end Go.PM
namespace Go.PM
def bl (n:Nat):Nat:=(aD 2 n).length
theorem HD (n:Nat):n<2^bl n:=iN (by decide) n
theorem zS {n k:Nat} (h:n<2^k):bl n≤k:=oP (by decide) h
theorem mB {m n:Nat} (h:m≤n):bl m≤bl n:=eW (by decide) h
theorem oC (m n:Nat):bl (m*n)≤bl m+bl n:=by
 refine zS ?_
 rw[Nat.pow_add]
 exact Nat.mul_lt_mul'' (HD m) (HD n)
theorem Jg {n k:Nat} (h:bl n≤k):n<2^k:=aKG (HD n) (aMH (by decide) h)
theorem Xo {m n k:Nat} (hm:bl m≤k) (hn:bl n≤k):bl (m+n)≤k+1:=by
 refine zS ?_
 have h1:=Jg hm
 have h2:=Jg hn
 rw[aL5]
 omega
theorem aaK:bl 0=0:=by simp[bl,cE]
theorem Lg:bl 1=1:=by simp[bl,kU (b:=2) (by decide) (n:=1) (by decide),cE]
theorem anW {n:Nat} (h:n≠0):1≤bl n:=by
 have:=mB (m:=1) (n:=n) (by omega)
 rwa [Lg] at this
theorem auE (n:Nat):32*(aD 4294967296 n).length≤bl n+31:=by
 by_cases h:n=0
 ·subst h;rw[cE];simp
 ·have h1:=NC (b:=4294967296) (by decide) h
  have h2:=HD n
  have e:(4294967296:Nat)=2^32:=by decide
  rw[e] at h1 ⊢
  rw[←Nat.pow_mul] at h1
  have h3:2^(32*((aD (2^32) n).length-1))<2^bl n:=by omega
  have h4:=(aM8 (by decide)).1 h3
  omega
theorem avL (n:Nat):29*(aD 1000000000 n).length≤bl n+28:=by
 by_cases h:n=0
 ·subst h;rw[cE];simp
 ·have h1:=NC (b:=1000000000) (by decide) h
  have h2:=HD n
  have h5:(2^29)^((aD 1000000000 n).length-1)≤1000000000^((aD 1000000000 n).length-1):=Nat.pow_le_pow_left (by decide) _
  rw[←Nat.pow_mul] at h5
  have h3:2^(29*((aD 1000000000 n).length-1))<2^bl n:=by omega
  have h4:=(aM8 (by decide)).1 h3
  omega
def aL (q:Rat):Nat:=max (bl q.num.natAbs) (bl q.den)
theorem pZ {q:Rat}:bl q.num.natAbs≤aL q:=Nat.le_max_left _ _
theorem oA {q:Rat}:bl q.den≤aL q:=Nat.le_max_right _ _
theorem QS {q:Rat}:1≤aL q:=aKF (anW q.den_nz) oA
theorem Ph {q:Rat} {k:Nat} (h1:bl q.num.natAbs≤k) (h2:bl q.den≤k):aL q≤k:=Nat.max_le.2 ⟨h1,h2⟩
theorem CY {n:Int} {d k:Nat} (h1:bl n.natAbs≤k) (h2:bl d≤k) (hk:1≤k):aL (mkRat n d)≤k:=by
 refine Ph ?_ ?_
 ·rw[Rat.num_mkRat]
  split
  ·rw[Int.natAbs_zero,aaK];omega
  ·exact aKF (mB (Int.natAbs_ediv_le_natAbs _ _)) h1
 ·rw[Rat.den_mkRat]
  split
  ·rw[Lg];exact hk
  ·exact aKF (mB (aNb _ _)) h2
theorem vD (a b:Rat):aL (a+b)≤aL a+aL b+1:=by
 rw[Rat.add_def']
 have h1 := @pZ a
 have h2 := @pZ b
 have h3 := @oA a
 have h4 := @oA b
 have h5:=oC a.num.natAbs b.den
 have h6:=oC b.num.natAbs a.den
 have h7:=oC a.den b.den
 refine CY ?_ (by omega) (by omega)
 have h8:(a.num*b.den+b.num*a.den).natAbs≤a.num.natAbs*b.den+b.num.natAbs*a.den:=by
  refine aKF (Int.natAbs_add_le _ _) ?_
  rw[aNi,aNi,aNj,aNj]
  exact aKE _
 exact aKF (mB h8) (Xo (by omega) (by omega))
theorem jA (a b:Rat):aL (a*b)≤aL a+aL b:=by
 rw[Rat.mul_def']
 have h1 := @pZ a
 have h2 := @pZ b
 have h3 := @oA a
 have h4 := @oA b
 have h5:=oC a.num.natAbs b.num.natAbs
 have h7:=oC a.den b.den
 have h8 := @QS a
 refine CY ?_ (by omega) (by omega)
 rw[aNi]
 omega
theorem G9 (a:Rat):aL (-a)=aL a:=by simp[aL]
theorem abK (a b:Rat):aL (a-b)≤aL a+aL b+1:=by
 rw[Rat.sub_eq_add_neg]
 have:=vD a (-b)
 rwa [G9] at this
theorem QL (a:Rat):aL a⁻¹≤aL a:=by
 have h1 := @pZ a
 have h2 := @oA a
 refine Ph ?_ ?_
 ·rw[Rat.num_inv,aNi,aNj]
  refine aKF (mB ?_) h2
  have h3:a.num.sign.natAbs≤1:=by
   rcases Int.lt_trichotomy a.num 0 with h | h | h
   ·rw[Int.sign_eq_neg_one_of_neg h];decide
   ·rw[h];decide
   ·rw[Int.sign_eq_one_of_pos h];decide
  have:=aK5 a.den h3
  omega
 ·rw[Rat.den_inv]
  split
  ·rw[Lg];exact QS
  ·exact h1
theorem GU (a b:Rat):aL (a / b)≤aL a+aL b:=by
 rw[Rat.div_def]
 have:=jA a b⁻¹
 have:=QL b
 omega
theorem Gw (n:Int):aL (n:Rat)≤max (bl n.natAbs) 1:=by
 refine Ph ?_ ?_
 ·rw[Rat.num_intCast];exact Nat.le_max_left _ _
 ·rw[Rat.den_intCast,Lg];exact Nat.le_max_right _ _
theorem rH:aL 0=1:=by simp[aL,aaK,Lg]
theorem AR:aL 1=1:=by simp[aL,Lg]
theorem Q6 (a:Rat):∀n:Nat,aL (a^n)≤n*aL a+1
 | 0=>by rw[Rat.pow_zero,AR];omega
 |
  n+1=>by
  rw[Rat.pow_succ]
  have h1:=jA (a^n) a
  have h2:=Q6 a n
  rw[aK9]
  omega
def mI (neg:Bool) (t:Nat):Int:=if neg then -(t:Int) else t
theorem qY (neg:Bool) (t:Nat):(mI neg t).natAbs=t:=by cases neg<;>simp[mI]
theorem Tf {neg:Bool} {t:Nat}:mI neg t<0↔neg=true∧t≠0:=by cases neg<;>simp[mI]<;>omega
theorem Bu (neg:Bool):mI neg 0=0:=by cases neg<;>rfl
theorem Kb (z:Int):mI (decide (z<0)) z.natAbs=z:=by
 by_cases h:z<0<;>simp[mI,h]<;>omega
theorem arN {neg:Bool} {t g:Nat}:(mI neg t) / (g:Int)=mI neg (t / g)∨¬g ∣ t:=by
 by_cases h:g ∣ t
 ·left
  obtain⟨k,rfl⟩:=h
  by_cases hg:g=0
  ·subst hg;simp[Bu]
  ·rw[Nat.mul_div_cancel_left _ (by omega)]
   cases neg
   ·simp only[mI]
    simp only[aLg,if_false]
    rw[aM4,aNk _ (by omega)]
   ·simp only[mI,if_true]
    rw[aM4,←Int.mul_neg,aNk _ (by omega)]
 ·exact .inr h
theorem IM {neg:Bool} {t b:Nat} (hb:b≠0):(mkRat (mI neg t) b).num=mI neg (t / Nat.gcd t b):=by
 rw[Rat.num_mkRat,if_neg hb,qY,Nat.gcd_comm]
 rcases arN (neg:=neg) (t:=t) (g:=Nat.gcd t b) with h | h
 ·exact h
 ·exact absurd (Nat.gcd_dvd_left _ _) h
theorem Sk {neg:Bool} {t b:Nat} (hb:b≠0):(mkRat (mI neg t) b).den=b / Nat.gcd t b:=by
 rw[Rat.den_mkRat,if_neg hb,qY,Nat.gcd_comm]
theorem Ny (q:Rat):mkRat (mI (decide (q.num<0)) q.num.natAbs) q.den=q:=by rw[Kb,Rat.mkRat_self]
end Go.PM