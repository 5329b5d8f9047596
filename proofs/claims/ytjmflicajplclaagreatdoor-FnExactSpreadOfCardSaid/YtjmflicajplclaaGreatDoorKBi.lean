/- Texts of a claim, in one: part 9. -/
import Derived.Test.YtjmflicajplclaaGreatDoorKBh
open And renaming intro → aMh
open Bool renaming false_eq_true → aLd
open Int renaming mul_ediv_cancel_left → aNh,mul_le_mul_of_nonneg_left → aNe,natAbs_mul → aNf,natAbs_natCast → aNg,natCast_add → aMM,natCast_mul → aM1
open List renaming append_assoc → aMn,drop_drop → aLB,drop_of_length_le → aMu,drop_zero → aLN,getElem?_drop → aKz,getElem?_eq_getElem → aKI,getElem?_eq_none_iff → aMS,getElem?_eq_some_iff → aKA,getElem?_set_ne → aK0,getElem?_set_self → aKZ,getElem?_take_of_lt → aKY,length_append → aKM,length_drop → aM2,length_set → aMz,length_take → aMa,mem_append → aLx,mem_of_getElem? → aLv,mem_of_mem_drop → aLz,mem_of_mem_take → aLy,replicate → aLr,take_append_drop → aLK,take_append_of_le_length → aNc,take_of_length_le → aLu
open Nat renaming add_mul → aK6,add_mul_div_left → aM3,add_mul_mod_self_left → aM4,add_zero → aMI,div_add_mod → aNd,div_div_eq_div_mul → aMO,div_eq_of_lt → aL8,div_le_self → aM8,div_mul_le_self → aNa,le_div_iff_mul_le → aM9,le_of_ble_eq_true → aMp,le_of_lt → aLi,le_refl → aKB,le_trans → aKC,lt_of_le_of_lt → aM7,lt_of_lt_of_le → aKD,lt_of_mul_lt_mul_right → aMB,mod_add_div → aMK,mod_eq_of_lt → aL5,mod_lt → aK3,mul_add → aM0,mul_assoc → aMR,mul_comm → aL3,mul_le_mul → aMU,mul_le_mul_left → aMA,mul_le_mul_right → aK2,mul_lt_mul_of_pos_right → aM6,mul_zero → aMH,one_mul → aNb,pow_le_pow_right → aME,pow_lt_pow_iff_right → aM5,pow_succ → aL2,zero_add → aL9,zero_le → aK5
set_option linter.unusedSimpArgs false
set_option linter.unusedVariables false
namespace Go.PM
theorem Sz {H:aA} {b b' g:Nat} {x:fC} (h:b≠b'):aG (H.set b x) b' g=aG H b' g:=by
 unfold aG
 rw[aK0 h]
theorem qB {H:aA} {b g e:Nat} {es oZ:List VV} {w w':Bool} (h:aG H b g=some (es,e,w)):aG (H.set b (.row g oZ e w')) b g=some (oZ,e,w'):=by
 have bI:b<H.length:=by
  unfold aG at h
  split at h
  ·rename_i hb
   exact(aKA.1 hb).1
  ·cases h
 unfold aG
 rw[aKZ bI]
 simp
theorem oL {H:aA} {b:Nat} {x y:fC}:(H.set b x).set b y=H.set b y:=by rw[List.set_set]
theorem AD {H:aA} {b g e:Nat} {es:List VV} {w:Bool} (h:aG H b g=some (es,e,w)):H.set b (.row g es e w)=H:=by
 apply List.ext_getElem?
 intro i
 by_cases hi:b=i
 ·subst hi
  unfold aG at h
  split at h
  ·rename_i hb
   split at h
   ·rename_i hg
    cases h
    rw[aKZ (aKA.1 hb).1,hb,hg]
   ·cases h
  ·cases h
 ·rw[aK0 hi]
theorem anR {H:aA} {b g o i lo d:Nat} {pre jO post:List Nat} (hr:aG H b g=some ((pre++jO++post).map uV,1,true)) (ho:pre.length=o) (hi:i<jO.length) (dS:lo≤b) :
  bL lo 1 (.ptr b g (o+i) 0) (uV d) H=some (H.set b (.row g ((pre++jO.set i d++post).map uV) 1 true)):=by
 rw[dQ (f:=uV) (e:=1) hr (by simp only[aKM];omega) dS rfl rfl,aaN ho hi]
theorem Xw {H:aA} {lo b g o L c b2 g2 n2 c2 t:Nat} {pre jO post vs R2:List Nat} {w2:Bool} (hr:aG H b g=some ((pre++jO++post).map uV,1,true)) (hr2:aG H b2 g2=some (R2.map uV,1,w2)) (hb:b≠b2) (dS:lo≤b)
  (ho:pre.length=o) (hL:jO.length=L) (aFS:L≤70368744177664) (TZ:R2.take n2=vs) (hn2:n2≤R2.length) (hle:n2≤L) (acB:∀d∈jO,d<4294967296) (Ju:∀d∈vs,d<4294967296) (ht:t<4294967296) (xG:t*val 4294967296 vs≤val 4294967296 jO+val 4294967296 vs) :
  jH 200 [.ref b g o L c,.ref b2 g2 0 n2 c2,VK .u64 t] lo H fun r H'=>∃uP:List Nat,H'=H.set b (.row g ((pre++uP++post).map uV) 1 true)∧uP.length=L∧(∀d∈uP,d<4294967296) ∧
   ((r=VB false∧val 4294967296 uP+t*val 4294967296 vs=val 4294967296 jO)∨(r=VB true∧val 4294967296 jO<t*val 4294967296 vs∧val 4294967296 uP+t*val 4294967296 vs=val 4294967296 jO+val 4294967296 vs)):=by
 refine jH.walk ⟨true,false⟩ Nz (aMp rfl) ?_
 have HY:vs.length=n2:=by rw[←TZ,aMa];omega
 have xQ:∀i,i<n2→R2[i]? = vs[i]? := fun i hi=>by rw[←TZ,aKY hi]
 have Tv:=sF acB
 have Qr:=sF Ju
 rw[hL] at Tv
 rw[HY] at Qr
 have hVL:val 4294967296 vs≤4294967296^L:=aKC (aLi Qr) (aME (by decide) hle)
 have e0:∀ {K:aA} {es:List VV},aG K b g=some (es,1,true)→rL (.ref b g o L c) K=some (VI L):=fun h=>eK h
 have e00:∀ {K:aA},aG K b2 g2=some (R2.map uV,1,w2)→rL (.ref b2 g2 0 n2 c2) K=some (VI n2):=fun h=>eK h
 have rd:∀(s:List Nat),s.length=L→aG (H.set b (.row g ((pre++s++post).map uV) 1 true)) b g=some ((pre++s++post).map uV,1,true):=fun s _=>qB hr
 have rd2:∀(s:List Nat),aG (H.set b (.row g ((pre++s++post).map uV) 1 true)) b2 g2=some (R2.map uV,1,w2):=fun s=>by rw[Sz hb];exact hr2
 have wi:∀i:Nat,i<L→IntKind.i64.wrap ((i:Int)+1)=((i+1:Nat):Int):=fun i hi=>wrapN (i+1) (by omega) (by omega)
 have back:∀(ρ:cW) (s:List Nat),s.length=L→(∀d∈s,d<4294967296)→(∀s2:List Nat,s2.length=L→(∀d∈s2,d<4294967296)→∀c,val 4294967296 s+val 4294967296 vs=val 4294967296 s2+4294967296^L*c→val 4294967296 s2+t*val 4294967296 vs=val 4294967296 jO+val 4294967296 vs)→val 4294967296 jO<t*val 4294967296 vs→ρ 0 = .ref b g o L c→ρ 1 = .ref b2 g2 0 n2 c2→ρ 7=VK .u64 0→ρ 58=VI L→ρ 59=VI 0 →
   VW ⟨true,false⟩ lo (.loop nS) (tH 2 (pR (VW ⟨true,false⟩ lo (.seq (.cU [⟨(some 6),(.mv (.const (.bool true))),none,false,[]⟩]) .ret) (C6 [.tmp 6] fun r H'=>∃uP:List Nat,H'=H.set b (.row g ((pre++uP++post).map uV) 1 true)∧uP.length=L∧(∀d∈uP,d<4294967296)∧((r=VB false∧val 4294967296 uP+t*val 4294967296 vs=val 4294967296 jO)∨(r=VB true∧val 4294967296 jO<t*val 4294967296 vs∧val 4294967296 uP+t*val 4294967296 vs=val 4294967296 jO+val 4294967296 vs)))) (C6 [.tmp 6] fun r H'=>∃uP:List Nat,H'=H.set b (.row g ((pre++uP++post).map uV) 1 true)∧uP.length=L∧(∀d∈uP,d<4294967296)∧((r=VB false∧val 4294967296 uP+t*val 4294967296 vs=val 4294967296 jO)∨(r=VB true∧val 4294967296 jO<t*val 4294967296 vs∧val 4294967296 uP+t*val 4294967296 vs=val 4294967296 jO+val 4294967296 vs))))) ρ (H.set b (.row g ((pre++s++post).map uV) 1 true)):=by
  intro ρ s hs Tk Oq apK g0 g1 g7 g58 g59
  refine aP (fun(u:Nat×List Nat×Nat) ρ K=>u.1≤L∧K=H.set b (.row g ((pre++u.2.1++post).map uV) 1 true)∧u.2.1.length=L∧(∀d∈u.2.1,d<4294967296)∧u.2.2≤1∧val 4294967296 (s.take u.1)+val 4294967296 (vs.take u.1)=val 4294967296 (u.2.1.take u.1)+4294967296^u.1*u.2.2∧(∀j,u.1≤j→u.2.1[j]? = s[j]?) ∧
   ρ 0 = .ref b g o L c∧ρ 1 = .ref b2 g2 0 n2 c2∧ρ 7=VK .u64 u.2.2∧ρ 58=VI L∧ρ 59=VI u.1) (fun u=>L-u.1) (0,s,0) ⟨aK5 _,rfl,hs,Tk,by simp,by simp[val],fun _ _=>rfl,g0,g1,g7,g58,g59⟩ ?_
  rintro⟨i,outs,cy⟩ tG K ⟨hi,rfl,iB,nK,hc,hv,I1,k0,k1,k7,k58,k59⟩
  simp only at hi iB nK hc hv I1 k7 k59
  by_cases bZ:(i:Int)<(L:Int)
  ·obtain⟨x,hx⟩:∃x,outs[i]? = some x:=⟨_,aKI (by omega)⟩
   have lx:=nK x (aLv hx)
   have Kg:s[i]? = some x:=by rw[←I1 i (aKB _)];exact hx
   have e1:bK 1 (.ref b g o L c) (VI i) (H.set b (.row g ((pre++outs++post).map uV) 1 true))=some (.ptr b g (o+i) 0):=bB (rd outs iB) (by omega)
   have e2:bH false 1 (.ptr b g (o+i) 0) (H.set b (.row g ((pre++outs++post).map uV) 1 true))=some (uV x):=kG (rd outs iB) (by rw[TX ho (by omega)];exact hx)
   have e3:∀d:Nat,bL lo 1 (.ptr b g (o+i) 0) (uV d) (H.set b (.row g ((pre++outs++post).map uV) 1 true))=some (H.set b (.row g ((pre++outs.set i d++post).map uV) 1 true)):=fun d=>by
    rw[anR (rd outs iB) ho (by omega) dS,oL]
   have e4:=e00 (rd2 outs)
   have w1:IntKind.u64.wrap (x:Int)=(x:Int):=eZ _ (by omega)
   have w2:IntKind.u64.wrap ((cy:Int)+(x:Int))=((cy+x:Nat):Int):=by rw[←aMM];exact eZ _ (by omega)
   have wii:=wi i (by omega)
   have step:∀y,y<4294967296→(∀d,vs[i]? = some d→d=y)→(vs.length≤i→y=0) →
     (i+1≤L∧(outs.set i ((cy+x+y) % 4294967296)).length=L∧(∀d∈outs.set i ((cy+x+y) % 4294967296),d<4294967296)∧(cy+x+y) / 4294967296≤1∧val 4294967296 (s.take (i+1))+val 4294967296 (vs.take (i+1))=val 4294967296 ((outs.set i ((cy+x+y) % 4294967296)).take (i+1))+4294967296^(i+1)*((cy+x+y) / 4294967296))∧∀j,i+1≤j→(outs.set i ((cy+x+y) % 4294967296))[j]? = s[j]? := by
    intro y hy h1 h2
    refine⟨⟨by omega,by rw[aMz];exact iB,nW nK (aK3 _ (by decide)),by omega,?_⟩,fun j hj=>by rw[aK0 (by omega)];exact I1 j (by omega)⟩
    have hy':val 4294967296 (vs.take (i+1))=val 4294967296 (vs.take i)+4294967296^i*y:=by
     cases XN:vs[i]? with
     | some d=>rw[bE XN,h1 d XN]
     |
      none =>
      have hle:=aMS.1 XN
      rw[h2 hle,lF hle,lF (by omega),aMH,aMI]
    rw[bE Kg,hy',fH (by omega),aL2]
    exact IT hv rfl (aMK _ _)
   by_cases bI:(i:Int)<(n2:Int)
   ·obtain⟨y,hy⟩:∃y,vs[i]? = some y:=⟨_,aKI (by omega)⟩
    have ly:=Ju y (aLv hy)
    have f1:bK 1 (.ref b2 g2 0 n2 c2) (VI i) (H.set b (.row g ((pre++outs++post).map uV) 1 true))=some (.ptr b2 g2 i 0):=by rw[bB (rd2 outs) (by omega),aL9]
    have f2:bH false 1 (.ptr b2 g2 i 0) (H.set b (.row g ((pre++outs++post).map uV) 1 true))=some (uV y):=kG (rd2 outs) (by rw[xQ i (by omega)];exact hy)
    have w3:IntKind.u64.wrap (y:Int)=(y:Int):=eZ _ (by omega)
    have w4:IntKind.u64.wrap (((cy+x:Nat):Int)+(y:Int))=((cy+x+y:Nat):Int):=by rw[←aMM];exact eZ _ (by omega)
    obtain⟨⟨s1,s2,s3,s4,s5⟩,s6⟩:=step y ly (fun d hd=>by rw[hy] at hd;injection hd with hd;exact hd.symm) (fun h=>by omega)
    simp only[nS,k0,k1,k7,k58,k59,bZ,bI,e1,e2,e3,e4,f1,f2,w1,w2,w3,w4,wii,wrap32,qO,VX,Nat.reduceEqDiff,Nat.reduceAdd]
    exact⟨(i+1,outs.set i ((cy+x+y) % 4294967296),(cy+x+y) / 4294967296),by simp only;omega,s1,rfl,s2,s3,s4,s5,s6,by (repeat' apply aMh)<;>first | rfl | trivial⟩
   ·obtain⟨⟨s1,s2,s3,s4,s5⟩,s6⟩:=step 0 (by decide) (fun d hd=>by have:=(aKA.1 hd).1;omega) (fun _=>rfl)
    simp only[aMI] at s2 s3 s4 s5 s6
    simp only[nS,k0,k1,k7,k58,k59,bZ,bI,e1,e2,e3,e4,w1,w2,wii,wrap32,qO,VX,Nat.reduceEqDiff,Nat.reduceAdd]
    exact⟨(i+1,outs.set i ((cy+x) % 4294967296),(cy+x) / 4294967296),by simp only;omega,s1,rfl,s2,s3,s4,s5,s6,by (repeat' apply aMh)<;>first | rfl | trivial⟩
  ·have mC:i=L:=by omega
   subst mC
   rw[aLu (by omega),aLu (by omega),aLu (by omega)] at hv
   simp only[nS,k0,k1,k7,k58,k59,bZ,VX,Nat.reduceEqDiff,Nat.reduceAdd]
   exact⟨outs,rfl,iB,nK,.inr ⟨apK,Oq outs iB nK cy hv⟩⟩
 simp only[HP,EP,e0 hr,VX,Nat.reduceEqDiff,Nat.reduceAdd]
 refine aP (fun(u:Nat×List Nat×Nat×Nat) ρ K=>u.1≤L∧K=H.set b (.row g ((pre++u.2.1++post).map uV) 1 true)∧u.2.1.length=L∧(∀d∈u.2.1,d<4294967296)∧u.2.2.1<4294967296∧u.2.2.2≤1∧val 4294967296 (jO.take u.1)+4294967296^u.1*(u.2.2.1+u.2.2.2)=val 4294967296 (u.2.1.take u.1)+t*val 4294967296 (vs.take u.1)∧(∀j,u.1≤j→u.2.1[j]? = jO[j]?) ∧
  ρ 0 = .ref b g o L c∧ρ 1 = .ref b2 g2 0 n2 c2∧ρ 2=VK .u64 t∧ρ 7=VK .u64 u.2.2.1∧ρ 8=VI u.2.2.2∧ρ 13=VI L∧ρ 14=VI u.1) (fun u=>L-u.1) (0,jO,0,0) ⟨aK5 _,(AD hr).symm,hL,acB,by simp,by simp,by simp[val],fun _ _=>rfl,by (repeat' apply aMh)<;>first | rfl | trivial⟩ ?_
 rintro⟨i,outs,cy,l⟩ ρ K ⟨hi,rfl,iB,nK,hc,CU,hv,I1,k0,k1,k2,k7,k8,Ck,Dh⟩
 simp only at hi iB nK hc CU hv I1 k7 k8 Dh
 by_cases bZ:(i:Int)<(L:Int)
 ·obtain⟨x,hx⟩:∃x,outs[i]? = some x:=⟨_,aKI (by omega)⟩
  have lx:=nK x (aLv hx)
  have Kg:jO[i]? = some x:=by rw[←I1 i (aKB _)];exact hx
  have e1:bK 1 (.ref b g o L c) (VI i) (H.set b (.row g ((pre++outs++post).map uV) 1 true))=some (.ptr b g (o+i) 0):=bB (rd outs iB) (by omega)
  have e2:bH false 1 (.ptr b g (o+i) 0) (H.set b (.row g ((pre++outs++post).map uV) 1 true))=some (uV x):=kG (rd outs iB) (by rw[TX ho (by omega)];exact hx)
  have e3:∀d:Nat,bL lo 1 (.ptr b g (o+i) 0) (uV d) (H.set b (.row g ((pre++outs++post).map uV) 1 true))=some (H.set b (.row g ((pre++outs.set i d++post).map uV) 1 true)):=fun d=>by
   rw[anR (rd outs iB) ho (by omega) dS,oL]
  have e4:=e00 (rd2 outs)
  have wii:=wi i (by omega)
  have w1:IntKind.i64.wrap (x:Int)=(x:Int):=wrapN x rfl (by omega)
  have step:∀y c1,y<4294967296→c1=cy+t*y→(∀d,vs[i]? = some d→d=y)→(vs.length≤i→y=0) →
    c1 / 4294967296<4294967296∧IntKind.i64.wrap ((x:Int)-((c1 % 4294967296:Nat):Int)-(l:Int))=(x:Int)-((c1 % 4294967296:Nat):Int)-(l:Int)∧IntKind.i64.wrap ((x:Int)-((c1 % 4294967296:Nat):Int))=(x:Int)-((c1 % 4294967296:Nat):Int) ∧
    ∃r l',l'≤1∧((x:Int)-((c1 % 4294967296:Nat):Int)-(l:Int)<0↔l'=1)∧IntKind.u32.wrap ((x:Int)-((c1 % 4294967296:Nat):Int)-(l:Int))=((r:Nat):Int) ∧
    (i+1≤L∧(outs.set i r).length=L∧(∀d∈outs.set i r,d<4294967296)∧c1 / 4294967296<4294967296∧l'≤1∧val 4294967296 (jO.take (i+1))+4294967296^(i+1)*(c1 / 4294967296+l')=val 4294967296 ((outs.set i r).take (i+1))+t*val 4294967296 (vs.take (i+1))∧∀j,i+1≤j→(outs.set i r)[j]? = jO[j]?):=by
   intro y c1 hy hc1 h1 h2
   have hty:t*y≤4294967295*4294967295:=aMU (by omega) (by omega)
   have hm:=aK3 c1 (show 0<4294967296 by decide)
   have hdv:=aMK c1 4294967296
   have hq:c1 / 4294967296<4294967296:=Nat.div_lt_of_lt_mul (by omega)
   refine⟨hq,wrap64 (by omega) (by omega),wrap64 (by omega) (by omega),?_⟩
   obtain⟨r,l',Fo,I3,hd,hlw,mI⟩:∃r l':Nat,l'≤1∧r<4294967296∧r+c1 % 4294967296+l=x+4294967296*l'∧IntKind.u32.wrap ((x:Int)-((c1 % 4294967296:Nat):Int)-(l:Int))=((r:Nat):Int)∧((x:Int)-((c1 % 4294967296:Nat):Int)-(l:Int)<0↔l'=1):=by
    by_cases hn:(x:Int)-((c1 % 4294967296:Nat):Int)-(l:Int)<0
    ·exact⟨x+4294967296-c1 % 4294967296-l,1,by omega,by omega,by omega,O5 (by omega) hn (by omega),fun _=>rfl,fun _=>hn⟩
    ·exact⟨x-c1 % 4294967296-l,0,by omega,by omega,by omega,by rw[IntKind.wrap_u32];omega,fun h=>absurd h hn,fun h=>by omega⟩
   refine⟨r,l',Fo,mI,hlw,by omega,by rw[aMz];exact iB,nW nK I3,hq,Fo,?_,fun j hj=>by rw[aK0 (by omega)];exact I1 j (by omega)⟩
   have hy':val 4294967296 (vs.take (i+1))=val 4294967296 (vs.take i)+4294967296^i*y:=by
    cases XN:vs[i]? with
    | some d=>rw[bE XN,h1 d XN]
    |
     none =>
     have hle:=aMS.1 XN
     rw[h2 hle,lF hle,lF (by omega),aMH,aMI]
   rw[bE Kg,hy',fH (by omega),aL2]
   have:=abW hv hc1 hdv.symm hd
   rw[this,aM0,Nat.mul_left_comm t]
  by_cases bI:(i:Int)<(n2:Int)
  ·obtain⟨y,hy⟩:∃y,vs[i]? = some y:=⟨_,aKI (by omega)⟩
   have ly:=Ju y (aLv hy)
   have f1:bK 1 (.ref b2 g2 0 n2 c2) (VI i) (H.set b (.row g ((pre++outs++post).map uV) 1 true))=some (.ptr b2 g2 i 0):=by rw[bB (rd2 outs) (by omega),aL9]
   have f2:bH false 1 (.ptr b2 g2 i 0) (H.set b (.row g ((pre++outs++post).map uV) 1 true))=some (uV y):=kG (rd2 outs) (by rw[xQ i (by omega)];exact hy)
   have w3:IntKind.u64.wrap (y:Int)=(y:Int):=eZ _ (by omega)
   have hty:t*y≤4294967295*4294967295:=aMU (by omega) (by omega)
   have w4:IntKind.u64.wrap ((t:Int)*(y:Int))=((t*y:Nat):Int):=by rw[←aM1];exact eZ _ (by omega)
   have w5:IntKind.u64.wrap ((cy:Int)+((t*y:Nat):Int))=((cy+t*y:Nat):Int):=by rw[←aMM];exact eZ _ (by omega)
   have w6:IntKind.i64.wrap (((cy+t*y) % 4294967296:Nat):Int)=(((cy+t*y) % 4294967296:Nat):Int):=wrapN _ rfl (by omega)
   obtain⟨_,a1,a2,r,l',Fo,mI,hw,s1,s2,s3,s4,s5,s6,s7⟩:=step y (cy+t*y) ly rfl (fun d hd=>by rw[hy] at hd;injection hd with hd;exact hd.symm) (fun h=>by omega)
   by_cases hn:(x:Int)-(((cy+t*y) % 4294967296:Nat):Int)-(l:Int)<0
   ·have:=mI.1 hn
    subst this
    simp only[gV,k0,k1,k2,k7,k8,Ck,Dh,bZ,bI,e1,e2,e3,e4,f1,f2,w1,w3,w4,w5,w6,a1,a2,hn,hw,wii,wrap32,qO,VX,Nat.reduceEqDiff,Nat.reduceAdd]
    exact⟨(i+1,outs.set i r,(cy+t*y) / 4294967296,1),by simp only;omega,s1,rfl,s2,s3,s4,s5,s6,s7,by (repeat' apply aMh)<;>first | rfl | trivial⟩
   ·have:l'=0:=by
     have:l'≠1:=fun h=>hn (mI.2 h)
     omega
    subst this
    simp only[gV,k0,k1,k2,k7,k8,Ck,Dh,bZ,bI,e1,e2,e3,e4,f1,f2,w1,w3,w4,w5,w6,a1,a2,hn,hw,wii,wrap32,qO,VX,Nat.reduceEqDiff,Nat.reduceAdd]
    exact⟨(i+1,outs.set i r,(cy+t*y) / 4294967296,0),by simp only;omega,s1,rfl,s2,s3,s4,s5,s6,s7,by (repeat' apply aMh)<;>first | rfl | trivial⟩
  ·have w6:IntKind.i64.wrap ((cy % 4294967296:Nat):Int)=((cy % 4294967296:Nat):Int):=wrapN _ rfl (by omega)
   obtain⟨_,a1,a2,r,l',Fo,mI,hw,s1,s2,s3,s4,s5,s6,s7⟩:=step 0 cy (by decide) (by simp) (fun d hd=>by have:=(aKA.1 hd).1;omega) (fun _=>rfl)
   by_cases hn:(x:Int)-((cy % 4294967296:Nat):Int)-(l:Int)<0
   ·have:=mI.1 hn
    subst this
    simp only[gV,k0,k1,k2,k7,k8,Ck,Dh,bZ,bI,e1,e2,e3,e4,w1,w6,a1,a2,hn,hw,wii,wrap32,qO,VX,Nat.reduceEqDiff,Nat.reduceAdd]
    exact⟨(i+1,outs.set i r,cy / 4294967296,1),by simp only;omega,s1,rfl,s2,s3,s4,s5,s6,s7,by (repeat' apply aMh)<;>first | rfl | trivial⟩
   ·have:l'=0:=by
     have:l'≠1:=fun h=>hn (mI.2 h)
     omega
    subst this
    simp only[gV,k0,k1,k2,k7,k8,Ck,Dh,bZ,bI,e1,e2,e3,e4,w1,w6,a1,a2,hn,hw,wii,wrap32,qO,VX,Nat.reduceEqDiff,Nat.reduceAdd]
    exact⟨(i+1,outs.set i r,cy / 4294967296,0),by simp only;omega,s1,rfl,s2,s3,s4,s5,s6,s7,by (repeat' apply aMh)<;>first | rfl | trivial⟩
 ·have mC:i=L:=by omega
  subst mC
  rw[aLu (by omega),aLu (by omega),aLu (by omega)] at hv
  have awM:=sF nK
  rw[iB] at awM
  by_cases hz:l=0∧cy=0
  ·obtain⟨rfl,rfl⟩:=hz
   simp only[gV,k0,k1,k2,k7,k8,Ck,Dh,bZ,Int.natCast_zero,VX,Nat.reduceEqDiff,Nat.reduceAdd]
   exact⟨outs,rfl,iB,nK,.inl (by simpa using hv.symm)⟩
  ·have abZ:cy+l=1:=by
    rcases anX hv awM hVL xG with h | h<;>omega
   rw[abZ,Nat.mul_one] at hv
   have apK:val 4294967296 jO<t*val 4294967296 vs:=by omega
   have fin:∀s2:List Nat,s2.length=i→(∀d∈s2,d<4294967296)→∀c,val 4294967296 outs+val 4294967296 vs=val 4294967296 s2+4294967296^i*c→val 4294967296 s2+t*val 4294967296 vs=val 4294967296 jO+val 4294967296 vs:=by
    intro s2 h2 h3 c h4
    have h5:=sF h3
    rw[h2] at h5
    exact amT hv h4 h5 hVL xG Tv (by omega)
   have hlen:=e0 (rd outs iB)
   by_cases Ct:(l:Int)=0
   ·have hcy:¬(cy:Int)=0:=by omega
    simp only[gV,k0,k1,k2,k7,k8,Ck,Dh,bZ,Ct,hcy,hlen,VX,Nat.reduceEqDiff,Nat.reduceAdd]
    exact back _ outs iB nK fin apK k0 k1 (by rfl) (by rfl) (by rfl)
   ·simp only[gV,k0,k1,k2,k7,k8,Ck,Dh,bZ,Ct,hlen,VX,Nat.reduceEqDiff,Nat.reduceAdd]
    exact back _ outs iB nK fin apK k0 k1 (by rfl) (by rfl) (by rfl)
end Go.PM
namespace Go.PM
section
variable {H:aA} {b g o i lo d:Nat} {L R:List VV} {low:List Nat}
theorem anK (hr:aG H b g=some (L++low.map tV++R,1,true)) (ho:L.length=o) (hi:low[i]? = some d):bH false 1 (.ptr b g (o+i) 0) H=some (VI (d:Int)):=by
 have bI:=(aKA.1 hi).1
 rw[S7 hr (x:=tV d) (by rw[TX ho (by simpa using bI)];simp[hi])]
 rfl
theorem agY (hr:aG H b g=some (L++low.map tV++R,1,true)) (ho:L.length=o) (hi:i<low.length) (dS:lo≤b):bL lo 1 (.ptr b g (o+i) 0) (VI (d:Int)) H=some (H.set b (.row g (L++(low.set i d).map tV++R) 1 true)):=by
 rw[bS hr (by simp only[aKM,List.length_map];omega) dS rfl rfl,aaN ho (by simpa using hi),List.map_set]
theorem Xy {n:Nat} {z:Int} (hr:aG H b g=some (L++low.map tV++VI z::R,1,true)) (ho:L.length=o) (hn:low.length=n):bH false 1 (.ptr b g (o+n) 0) H=some (VI z):=by
 rw[S7 hr (x:=VI z) (by rw[List.getElem?_append_right (by simp;omega)];simp[ho,hn])]
 rfl
theorem ajQ {n:Nat} {z z':Int} (hr:aG H b g=some (L++low.map tV++VI z::R,1,true)) (ho:L.length=o) (hn:low.length=n) (dS:lo≤b):bL lo 1 (.ptr b g (o+n) 0) (VI z') H=some (H.set b (.row g (L++low.map tV++VI z'::R) 1 true)):=by
 rw[bS hr (by simp only[aKM,List.length_map,List.length_cons];omega) dS rfl rfl,List.set_append_right _ _ (by simp;omega)]
 congr 5
 simp[ho,hn]
end
theorem TY {P A N B c u x t r k m q T:Nat} (h:A+P*c=N+t*B) (h1:r+m+c=u+T*k) (h2:m+T*q=x*t):(A+P*u)+P*T*(q+k)=(N+P*r)+t*(B+P*x):=by
 have e1:P*(r+m+c)=P*(u+T*k):=by rw[h1]
 have e2:P*(m+T*q)=P*(x*t):=by rw[h2]
 grind
theorem ajS {x t:Nat} (hx:x<1000000000) (ht:t<1000000000):x*t≤999999998000000001∧x*t / 1000000000≤999999998:=by
 have h:x*t≤999999999*999999999:=aMU (by omega) (by omega)
 omega
theorem aeS {H:aA} {lo b g o n N t top:Nat} {L R:List VV} {low vs:List Nat} (hr:aG H b g=some (L++low.map tV++VI (top:Int)::R,1,true)) (dS:lo≤b) (ho:L.length=o) (hl:low.length=n) (HY:vs.length=n) (hN:o+n<N) (Fm:N≤70368744177664)
  (hld:∀d∈low,d<1000000000) (Ju:∀d∈vs,d<1000000000) (ht:t<1000000000) (anO:top<1000000000) :
  jH 204 [.ref b g 0 N N,jI vs,VI (o:Int),VI (t:Int)] lo H fun r H'=>∃(Dc:List Nat) (c:Nat),H'=H.set b (.row g (L++Dc.map tV++VI ((top:Int)-(c:Int))::R) 1 true)∧Dc.length=n∧(∀d∈Dc,d<1000000000)∧c≤1000000000 ∧
   r=VB (decide ((top:Int)-(c:Int)<0))∧val 1000000000 low+1000000000^n*c=val 1000000000 Dc+t*val 1000000000 vs:=by
 refine jH.walk ⟨true,false⟩ JC (aMp rfl) ?_
 have rd:∀(s:List Nat) (z:Int),aG (H.set b (.row g (L++s.map tV++VI z::R) 1 true)) b g=some (L++s.map tV++VI z::R,1,true):=fun s z=>qB hr
 have ad:∀(K:aA) (es:List VV) (i:Nat),aG K b g=some (es,1,true)→i≤n→bK 1 (.ref b g 0 N N) (VI ((o+i:Nat):Int)) K=some (.ptr b g (o+i) 0):=fun K es i h hi=>by rw[bB h (by omega),aL9]
 simp only[E2,Ch,eW,VX,Nat.reduceEqDiff,Nat.reduceAdd]
 refine aP (fun(u:Nat×List Nat×Nat) ρ K=>u.1≤n∧K=H.set b (.row g (L++u.2.1.map tV++VI (top:Int)::R) 1 true)∧u.2.1.length=n∧(∀d∈u.2.1,d<1000000000)∧u.2.2≤1000000000∧val 1000000000 (low.take u.1)+1000000000^u.1*u.2.2=val 1000000000 (u.2.1.take u.1)+t*val 1000000000 (vs.take u.1)∧(∀j,u.1≤j→u.2.1[j]? = low[j]?) ∧
  ρ 0 = .ref b g 0 N N∧ρ 1=jI vs∧ρ 2=VI o∧ρ 3=VI t∧ρ 9=VI u.2.2∧ρ 13=jI vs∧ρ 14=VI vs.length∧ρ 15=VI u.1) (fun u=>n-u.1) (0,low,0) ⟨aK5 _,(AD hr).symm,hl,hld,by simp,by simp[val],fun _ _=>rfl,by (repeat' apply aMh)<;>first | rfl | trivial⟩ ?_
 rintro⟨i,outs,c⟩ ρ K ⟨hi,rfl,iB,nK,hc,hv,I1,k0,k1,k2,k3,k9,Ck,Dh,NC⟩
 simp only at hi iB nK hc hv I1 k9 NC
 by_cases bZ:(i:Int)<(vs.length:Int)
 ·obtain⟨u,hu⟩:∃u,outs[i]? = some u:=⟨_,aKI (by omega)⟩
  have lu:=nK u (aLv hu)
  have hu':low[i]? = some u:=by rw[←I1 i (aKB _)];exact hu
  obtain⟨x,hx⟩:∃x,vs[i]? = some x:=⟨_,aKI (by omega)⟩
  have lx:=Ju x (aLv hx)
  obtain⟨xt1,xt2⟩:=ajS lx ht
  have e1:bK 1 (jI vs) (VI i) (H.set b (.row g (L++outs.map tV++VI (top:Int)::R) 1 true))=some (.cJ (tV x) 0):=aI (f:=tV) (t := .op) (size:=1) (k := .i64) hx rfl
  have w1:IntKind.i64.wrap ((o:Int)+(i:Int))=((o+i:Nat):Int):=wrapN _ (by omega) (by omega)
  have e2:=ad _ _ i (rd outs top) (by omega)
  have e3:=anK (rd outs top) ho hu
  have e4:∀d:Nat,bL lo 1 (.ptr b g (o+i) 0) (VI (d:Int)) (H.set b (.row g (L++outs.map tV++VI (top:Int)::R) 1 true))=some (H.set b (.row g (L++(outs.set i d).map tV++VI (top:Int)::R) 1 true)):=fun d=>by rw[agY (rd outs top) ho (by omega) dS,oL]
  have w2:IntKind.i64.wrap ((x:Int)*(t:Int))=((x*t:Nat):Int):=wrapN _ (by simp) (by omega)
  have r1:=Rj (x*t)
  have q1:=Rs (x*t) (by omega)
  have hm:=aK3 (x*t) (show 0<1000000000 by decide)
  have hdv:=aMK (x*t) 1000000000
  have wi:IntKind.i64.wrap ((i:Int)+1)=((i+1:Nat):Int):=wrapN (i+1) (by omega) (by omega)
  generalize hmq:x*t % 1000000000=m at *
  generalize hqq:x*t / 1000000000=q at *
  have w3:IntKind.i64.wrap ((u:Int)-(m:Int))=(u:Int)-(m:Int):=wrap64 (by omega) (by omega)
  have w4:IntKind.i64.wrap ((u:Int)-(m:Int)-(c:Int))=(u:Int)-(m:Int)-(c:Int):=wrap64 (by omega) (by omega)
  have step:∀r k:Nat,r<1000000000→r+m+c=u+1000000000*k→val 1000000000 (low.take (i+1))+1000000000^(i+1)*(q+k)=val 1000000000 ((outs.set i r).take (i+1))+t*val 1000000000 (vs.take (i+1))∧(∀d∈outs.set i r,d<1000000000)∧(∀j,i+1≤j→(outs.set i r)[j]? = low[j]?)∧(outs.set i r).length=n:=by
   intro r k hr hk
   refine⟨?_,nW nK hr,fun j hj=>by rw[aK0 (by omega)];exact I1 j (by omega),by rw[aMz];exact iB⟩
   rw[bE hu',bE hx,fH (by omega),aL2]
   exact TY hv hk hdv
  by_cases h1:(u:Int)-(m:Int)-(c:Int)<0
  ·have w5:IntKind.i64.wrap ((u:Int)-(m:Int)-(c:Int)+1000000000)=(u:Int)-(m:Int)-(c:Int)+1000000000:=wrap64 (by omega) (by omega)
   have w6:IntKind.i64.wrap ((q:Int)+1)=((q+1:Nat):Int):=wrapN _ (by omega) (by omega)
   by_cases h2:(u:Int)-(m:Int)-(c:Int)+1000000000<0
   ·obtain⟨r,hr⟩:∃r:Nat,r+m+c=u+1000000000*2:=⟨u+1000000000*2-m-c,by omega⟩
    have w7:IntKind.i64.wrap ((u:Int)-(m:Int)-(c:Int)+1000000000+1000000000)=(r:Int):=wrapN r (by omega) (by omega)
    have w8:IntKind.i64.wrap (((q+1:Nat):Int)+1)=((q+2:Nat):Int):=wrapN _ (by omega) (by omega)
    obtain⟨s1,s2,s3,s4⟩:=step r 2 (by omega) hr
    simp only[lL,k0,k1,k2,k3,k9,Ck,Dh,NC,bZ,e1,e2,e3,e4,w1,w2,w3,w4,w5,w6,w7,w8,wi,r1,q1,h1,h2,VX,Nat.reduceEqDiff,Nat.reduceAdd]
    refine⟨(i+1,outs.set i r,q+2),by simp only;omega,by omega,rfl,s4,s2,by simp only;omega,s1,s3,?_⟩
    try (repeat' apply aMh)<;>first | rfl | trivial
   ·obtain⟨r,hr⟩:∃r:Nat,r+m+c=u+1000000000*1:=⟨u+1000000000*1-m-c,by omega⟩
    have w7:IntKind.i64.wrap ((u:Int)-(m:Int)-(c:Int)+1000000000)=(r:Int):=wrapN r (by omega) (by omega)
    have h3:¬(r:Int)<0:=by omega
    obtain⟨s1,s2,s3,s4⟩:=step r 1 (by omega) hr
    simp only[lL,k0,k1,k2,k3,k9,Ck,Dh,NC,bZ,e1,e2,e3,e4,w1,w2,w3,w4,w6,w7,wi,r1,q1,h1,h3,VX,Nat.reduceEqDiff,Nat.reduceAdd]
    refine⟨(i+1,outs.set i r,q+1),by simp only;omega,by omega,rfl,s4,s2,by simp only;omega,s1,s3,?_⟩
    try (repeat' apply aMh)<;>first | rfl | trivial
  ·obtain⟨r,hr⟩:∃r:Nat,r+m+c=u+1000000000*0:=⟨u-m-c,by omega⟩
   have w7:IntKind.i64.wrap ((u:Int)-(m:Int)-(c:Int))=(r:Int):=wrapN r (by omega) (by omega)
   have h3:¬(r:Int)<0:=by omega
   obtain⟨s1,s2,s3,s4⟩:=step r 0 (by omega) hr
   simp only[lL,k0,k1,k2,k3,k9,Ck,Dh,NC,bZ,e1,e2,e3,e4,w1,w2,w3,w7,wi,r1,q1,h3,VX,Nat.reduceEqDiff,Nat.reduceAdd]
   refine⟨(i+1,outs.set i r,q),by simp only;omega,by omega,rfl,s4,s2,by simp only;omega,s1,s3,?_⟩
   try (repeat' apply aMh)<;>first | rfl | trivial
 ·have mC:i=n:=by omega
  subst mC
  rw[aLu (by omega),aLu (by omega),aLu (by omega)] at hv
  have w1:IntKind.i64.wrap ((o:Int)+(vs.length:Int))=((o+i:Nat):Int):=wrapN _ (by omega) (by omega)
  have e2:=ad _ _ i (rd outs top) (by omega)
  have e2':=ad _ _ i (rd outs ((top:Int)-(c:Int))) (by omega)
  have e3:=Xy (rd outs top) ho iB
  have e3':=Xy (rd outs ((top:Int)-(c:Int))) ho iB
  have e4:bL lo 1 (.ptr b g (o+i) 0) (VI ((top:Int)-(c:Int))) (H.set b (.row g (L++outs.map tV++VI (top:Int)::R) 1 true))=some (H.set b (.row g (L++outs.map tV++VI ((top:Int)-(c:Int))::R) 1 true)):=by rw[ajQ (rd outs top) ho iB dS,oL]
  have w2:IntKind.i64.wrap ((top:Int)-(c:Int))=(top:Int)-(c:Int):=wrap64 (by omega) (by omega)
  simp only[lL,k0,k1,k2,k3,k9,Ck,Dh,NC,bZ,eW,w1,w2,e2,e2',e3,e3',e4,VX,Nat.reduceEqDiff,Nat.reduceAdd]
  refine⟨outs,c,rfl,iB,nK,hc,?_,hv⟩
  try rfl
theorem afA {H:aA} {lo b g o n N:Nat} {z:Int} {L R:List VV} {low vs:List Nat} (hr:aG H b g=some (L++low.map tV++VI z::R,1,true)) (dS:lo≤b) (ho:L.length=o) (hl:low.length=n) (HY:vs.length=n) (hN:o+n<N) (Fm:N≤70368744177664)
  (hld:∀d∈low,d<1000000000) (Ju:∀d∈vs,d<1000000000) (hz : -1000000000≤z) (NB:z≤1000000000) :
  jH 205 [.ref b g 0 N N,jI vs,VI (o:Int)] lo H fun r H'=>∃(Dc:List Nat) (c:Nat),H'=H.set b (.row g (L++Dc.map tV++VI (z+(c:Int))::R) 1 true)∧Dc.length=n∧(∀d∈Dc,d<1000000000)∧c≤1 ∧
   val 1000000000 low+val 1000000000 vs=val 1000000000 Dc+1000000000^n*c:=by
 refine jH.walk ⟨true,false⟩ Jc (aMp rfl) ?_
 have rd:∀(s:List Nat) (z:Int),aG (H.set b (.row g (L++s.map tV++VI z::R) 1 true)) b g=some (L++s.map tV++VI z::R,1,true):=fun s z=>qB hr
 have ad:∀(K:aA) (es:List VV) (i:Nat),aG K b g=some (es,1,true)→i≤n→bK 1 (.ref b g 0 N N) (VI ((o+i:Nat):Int)) K=some (.ptr b g (o+i) 0):=fun K es i h hi=>by rw[bB h (by omega),aL9]
 simp only[E6,Co,eW,VX,Nat.reduceEqDiff,Nat.reduceAdd]
 refine aP (fun(u:Nat×List Nat×Nat) ρ K=>u.1≤n∧K=H.set b (.row g (L++u.2.1.map tV++VI z::R) 1 true)∧u.2.1.length=n∧(∀d∈u.2.1,d<1000000000)∧u.2.2≤1∧val 1000000000 (low.take u.1)+val 1000000000 (vs.take u.1)=val 1000000000 (u.2.1.take u.1)+1000000000^u.1*u.2.2∧(∀j,u.1≤j→u.2.1[j]? = low[j]?) ∧
  ρ 0 = .ref b g 0 N N∧ρ 1=jI vs∧ρ 2=VI o∧ρ 6=VI u.2.2∧ρ 10=jI vs∧ρ 11=VI vs.length∧ρ 12=VI u.1) (fun u=>n-u.1) (0,low,0) ⟨aK5 _,(AD hr).symm,hl,hld,by simp,by simp[val],fun _ _=>rfl,by (repeat' apply aMh)<;>first | rfl | trivial⟩ ?_
 rintro⟨i,outs,c⟩ ρ K ⟨hi,rfl,iB,nK,hc,hv,I1,k0,k1,k2,k6,k10,ZP,KZ⟩
 simp only at hi iB nK hc hv I1 k6 KZ
 by_cases bZ:(i:Int)<(vs.length:Int)
 ·obtain⟨u,hu⟩:∃u,outs[i]? = some u:=⟨_,aKI (by omega)⟩
  have lu:=nK u (aLv hu)
  have hu':low[i]? = some u:=by rw[←I1 i (aKB _)];exact hu
  obtain⟨x,hx⟩:∃x,vs[i]? = some x:=⟨_,aKI (by omega)⟩
  have lx:=Ju x (aLv hx)
  have e1:bK 1 (jI vs) (VI i) (H.set b (.row g (L++outs.map tV++VI z::R) 1 true))=some (.cJ (tV x) 0):=aI (f:=tV) (t := .op) (size:=1) (k := .i64) hx rfl
  have w1:IntKind.i64.wrap ((o:Int)+(i:Int))=((o+i:Nat):Int):=wrapN _ (by omega) (by omega)
  have e2:=ad _ _ i (rd outs z) (by omega)
  have e3:=anK (rd outs z) ho hu
  have e4:∀d:Nat,bL lo 1 (.ptr b g (o+i) 0) (VI (d:Int)) (H.set b (.row g (L++outs.map tV++VI z::R) 1 true))=some (H.set b (.row g (L++(outs.set i d).map tV++VI z::R) 1 true)):=fun d=>by rw[agY (rd outs z) ho (by omega) dS,oL]
  have w2:IntKind.i64.wrap ((u:Int)+(x:Int))=((u+x:Nat):Int):=wrapN _ (by omega) (by omega)
  have w3:IntKind.i64.wrap (((u+x:Nat):Int)+(c:Int))=((u+x+c:Nat):Int):=wrapN _ (by omega) (by omega)
  have r1:=Rj (u+x+c)
  have q1:=Rs (u+x+c) (by omega)
  have wi:IntKind.i64.wrap ((i:Int)+1)=((i+1:Nat):Int):=wrapN (i+1) (by omega) (by omega)
  simp only[uQ,k0,k1,k2,k6,k10,ZP,KZ,bZ,e1,e2,e3,e4,w1,w2,w3,wi,r1,q1,VX,Nat.reduceEqDiff,Nat.reduceAdd]
  refine⟨(i+1,outs.set i ((u+x+c) % 1000000000),(u+x+c) / 1000000000),by simp only;omega,by omega,rfl,by rw[aMz];exact iB,nW nK (aK3 _ (by decide)),by simp only;omega,?_,fun j hj=>by rw[aK0 (by omega)];exact I1 j (by omega),?_⟩
  ·simp only
   rw[bE hu',bE hx,fH (by omega),aL2]
   exact IT hv (show c+u+x=u+x+c by omega) (aMK _ _)
  ·try (repeat' apply aMh)<;>first | rfl | trivial
 ·have mC:i=n:=by omega
  subst mC
  rw[aLu (by omega),aLu (by omega),aLu (by omega)] at hv
  have w1:IntKind.i64.wrap ((o:Int)+(vs.length:Int))=((o+i:Nat):Int):=wrapN _ (by omega) (by omega)
  have e2:=ad _ _ i (rd outs z) (by omega)
  have e3:=Xy (rd outs z) ho iB
  have e4:bL lo 1 (.ptr b g (o+i) 0) (VI (z+(c:Int))) (H.set b (.row g (L++outs.map tV++VI z::R) 1 true))=some (H.set b (.row g (L++outs.map tV++VI (z+(c:Int))::R) 1 true)):=by rw[ajQ (rd outs z) ho iB dS,oL]
  have w2:IntKind.i64.wrap (z+(c:Int))=z+(c:Int):=wrap64 (by omega) (by omega)
  simp only[uQ,k0,k1,k2,k6,k10,ZP,KZ,bZ,eW,w1,w2,e2,e3,e4,VX,Nat.reduceEqDiff,Nat.reduceAdd]
  exact⟨outs,c,rfl,iB,nK,hc,hv⟩
end Go.PM
namespace Go.PM
theorem Az {d:Nat} {H:aA}:fz (d+1) H (.tree [] .nil)=some (bR 0):=by
 rw[Gz]
 unfold fz
 have:bA (.tree [] .nil)=false:=by simp[bA]
 simp only[this,aLd,if_false]
 rfl
theorem alR {d:Nat} {H:aA} {m:Nat} {t:TK} (ht:t = .cl 1∨t = .op):fz (d+2) H (.tree ((aD 4294967296 m).map uV) t)=some (bR m):=by
 rcases ht with rfl | rfl
 ·unfold fz
  have:bA (.tree ((aD 4294967296 m).map uV) (.cl 1))=false:=by simp[bA]
  simp only[this,aLd,if_false]
  rw[mapM_pure (fQ fun _=>rfl)]
  rfl
 ·exact aN (bW m)
abbrev H3 (us ws os:List Nat):aA:=[.row 0 (us.map uV) 1 true,.row 0 (ws.map uV) 1 true,.row 0 (os.map uV) 1 true]
theorem E7 {us ws os:List Nat}:aG (H3 us ws os) 0 0=some (us.map uV,1,true):=rfl
theorem aA6 {us ws os:List Nat}:aG (H3 us ws os) 1 0=some (ws.map uV,1,true):=rfl
theorem atY {us ws os:List Nat}:aG (H3 us ws os) 2 0=some (os.map uV,1,true):=rfl
theorem adF {us:List Nat} {i n N V:Nat} (hN:us.length=N) (bZ:i+n<N) (hd:∀d∈us,d<4294967296) (hV:V<4294967296^n) (E0:val 4294967296 (us.drop (i+1))<V) :
  us=us.take i++(us.drop i).take (n+1)++us.drop (i+(n+1))∧(us.take i).length=i∧((us.drop i).take (n+1)).length=n+1∧val 4294967296 ((us.drop i).take (n+1))<4294967296*V∧val 4294967296 (us.drop i)=val 4294967296 ((us.drop i).take (n+1))∧val 4294967296 (us.drop (i+(n+1)))=0∧∀j,j<n+1→((us.drop i).take (n+1))[j]? = us[i+j]? := by
 obtain⟨x,hx⟩:∃x,us[i]? = some x:=⟨_,aKI (by omega)⟩
 have lx:=hd x (aLv hx)
 have h1:=xA (b:=4294967296) hx
 have h2:val 4294967296 (us.drop i)<4294967296*V:=by
  have:4294967296*(val 4294967296 (us.drop (i+1))+1)≤4294967296*V:=aMA _ E0
  omega
 have h3:=sP (b:=4294967296) (us.drop i) (n+1)
 have h4:((us.drop i).take (n+1)).length=n+1:=by rw[aMa,aM2];omega
 rw[h4,aLB] at h3
 have h5:val 4294967296 (us.drop (i+(n+1)))=0:=by
  rcases Nat.eq_zero_or_pos (val 4294967296 (us.drop (i+(n+1)))) with h | h
  ·exact h
  ·have h6:4294967296^(n+1)*1≤4294967296^(n+1)*val 4294967296 (us.drop (i+(n+1))):=aMA _ h
   have h7:4294967296*V≤4294967296^(n+1):=by rw[aL2,aL3];exact aK2 _ (by omega)
   omega
 rw[h5,aMH,aMI] at h3
 refine⟨?_,by rw[aMa];omega,h4,by omega,h3,h5,fun j hj => ?_⟩
 ·rw[aMn,←aLB,aLK,aLK]
 ·rw[aKY hj,aKz]
theorem Wf {x D p w:Nat} (hp:0<p) (hw:p*w=4294967296):(x+4294967296*D) / p=((D % 4294967296*4294967296+x) / p) % 4294967296+4294967296*(D / p)∨¬x<4294967296:=by
 rcases Nat.lt_or_ge x 4294967296 with hx | hx
 ·left
  have h1:(x+4294967296*D) / p / 4294967296=D / p:=by
   rw[aMO,aL3 p,←aMO,aM3 _ _ (by decide),aL8 hx,aL9]
  have h2:(x+4294967296*D) / p % 4294967296=(D % 4294967296*4294967296+x) / p % 4294967296:=by
   have e:x+4294967296*D=(D % 4294967296*4294967296+x)+p*(4294967296*(w*(D / 4294967296))):=by
    have h3:=aMK D 4294967296
    have h4:p*(4294967296*(w*(D / 4294967296)))=(p*w)*(4294967296*(D / 4294967296)):=by grind
    rw[h4,hw]
    omega
   rw[e,aM3 _ _ hp,aM4]
  have:=aMK ((x+4294967296*D) / p) 4294967296
  rw[h1,h2] at this
  exact this.symm
 ·right
  omega
theorem XE {x:Nat} (h0:x≠0) (hx:x<4294967296):∃s,s≤31∧TC 198 [uV x] (VI (s:Nat))∧x*2^s<4294967296:=by
 obtain⟨h1,h2,h3⟩:=Lib.bitLenAux_bounds 64 x (by omega) h0
 have h4:Lib.bitLenAux 64 x-1<32:=by
  have:2^(Lib.bitLenAux 64 x-1)<2^32:=by omega
  exact(aM5 (by decide)).1 this
 refine⟨32-Lib.bitLenAux 64 x,by omega,?_,?_⟩
 ·have:=afI x hx
  have e:(((32-Lib.bitLenAux 64 x:Nat)):Int)=32-(Lib.bitLen x:Int):=by unfold Lib.bitLen;omega
  rw[e]
  exact this
 ·have:2^Lib.bitLenAux 64 x*2^(32-Lib.bitLenAux 64 x)=4294967296:=by rw[←Nat.pow_add,show Lib.bitLenAux 64 x+(32-Lib.bitLenAux 64 x)=32 by omega]
  rw[←this]
  exact aM6 h3 (Nat.pow_pos (by decide))
theorem aeK {us ws os:List Nat} {k N s w0:Nat} {ρ:cW} {Q:VQ} (hs:s≤31) (hw:2^s*w0=4294967296) (hN:us.length=N) (hk:k≤N) (Fm:N≤70368744177664) (hd:∀d∈us,d<4294967296) (g8:ρ 8=VI s) (g9:ρ 9 = .ref 0 0 0 k N) (aD3:ρ 147=VI k) (aEo:ρ 148=VI 0)
  (hQ:∀(aQ:cW) (IQ:List Nat),aQ 9 = .ref 0 0 0 k N→aQ 13=ρ 13→IQ.length=N→(∀d∈IQ,d<4294967296)→val 4294967296 (IQ.take k)=val 4294967296 (us.take k) / 2^s→Q (.exit 4) aQ (H3 IQ ws os)) :
  VW ⟨true,false⟩ 0 (.loop nB) Q ρ (H3 us ws os):=by
 have hp:0<2^s:=Nat.pow_pos (by decide)
 refine aP (fun(t:Nat×List Nat) aQ H=>t.1≤k∧H=H3 t.2 ws os∧t.2.length=N∧(∀d∈t.2,d<4294967296)∧(∀j,t.1≤j→t.2[j]? = us[j]?)∧val 4294967296 (t.2.take t.1)+4294967296^t.1*(val 4294967296 ((us.take k).drop t.1) / 2^s)=val 4294967296 (us.take k) / 2^s ∧
  aQ 8=VI s∧aQ 9 = .ref 0 0 0 k N∧aQ 13=ρ 13∧aQ 147=VI k∧aQ 148=VI t.1) (fun t=>k-t.1) (0,us) ⟨aK5 _,rfl,hN,hd,fun _ _=>rfl,by simp[val],g8,g9,rfl,aD3,aEo⟩ ?_
 rintro⟨i,vs⟩ tG H ⟨hi,rfl,HY,Ju,I1,hv,k8,k9,Ck,axN,atS⟩
 simp only at hi HY Ju I1 hv atS
 by_cases bZ:(i:Int)<(k:Int)
 ·obtain⟨x,hx⟩:∃x,us[i]? = some x:=⟨_,aKI (by omega)⟩
  have hx2:vs[i]? = some x:=by rw[I1 i (aKB _)];exact hx
  have lx:=hd x (aLv hx)
  have hx3:(us.take k)[i]? = some x:=by rw[aKY (by omega)];exact hx
  have h1:=xA (b:=4294967296) hx3
  generalize hD:val 4294967296 ((us.take k).drop (i+1))=D at *
  have hlen:rL (.ref 0 0 0 k N) (H3 vs ws os)=some (VI k):=eK E7
  have e1:bK 1 (.ref 0 0 0 k N) (VI i) (H3 vs ws os)=some (.ptr 0 0 i 0):=by rw[bB E7 (by omega),aL9]
  have e2:bH false 1 (.ptr 0 0 i 0) (H3 vs ws os)=some (uV x):=kG E7 hx2
  have e3:∀d:Nat,bL 0 1 (.ptr 0 0 i 0) (uV d) (H3 vs ws os)=some (H3 (vs.set i d) ws os):=fun d=>by
   rw[dQ (f:=uV) (e:=1) E7 (by omega) (aKB _) rfl rfl]
   rfl
  have wi:IntKind.i64.wrap ((i:Int)+1)=((i+1:Nat):Int):=wrapN (i+1) (by omega) (by omega)
  have wx:IntKind.u64.wrap (x:Int)=(x:Int):=eZ _ (by omega)
  have hm:=aK3 D (show 0<4294967296 by decide)
  have w5:=GN (D % 4294967296) .u64 hm
  have w6:IntKind.u64.wrap (((D % 4294967296*4294967296:Nat):Int)+(x:Int))=((D % 4294967296*4294967296+x:Nat):Int):=by rw[←aMM];exact eZ _ (by omega)
  have w7:=anF (D % 4294967296*4294967296+x) s hs
  have sd:(x+4294967296*D) / 2^s=((D % 4294967296*4294967296+x) / 2^s) % 4294967296+4294967296*(D / 2^s):=by
   rcases Wf (x:=x) (D:=D) hp hw with h | h
   ·exact h
   ·exact absurd lx h
  have next:∃s':Nat×List Nat,k-s'.1<k-i∧s'.1≤k∧H3 (vs.set i (((D % 4294967296*4294967296+x) / 2^s) % 4294967296)) ws os=H3 s'.2 ws os∧s'.2.length=N∧(∀d∈s'.2,d<4294967296)∧(∀j,s'.1≤j→s'.2[j]? = us[j]?)∧val 4294967296 (s'.2.take s'.1)+4294967296^s'.1*(val 4294967296 ((us.take k).drop s'.1) / 2^s)=val 4294967296 (us.take k) / 2^s∧s'.1=i+1:=by
   refine⟨(i+1,vs.set i (((D % 4294967296*4294967296+x) / 2^s) % 4294967296)),by simp only;omega,by simp only;omega,rfl,by simp only[aMz];exact HY,nW Ju (aK3 _ (by decide)),fun j hj => ?_,?_,rfl⟩
   ·simp only at hj ⊢
    rw[aK0 (by omega)]
    exact I1 j (by omega)
   ·simp only
    rw[fH (by omega),hD,←hv,h1,sd,aL2]
    generalize (D % 4294967296*4294967296+x) / 2^s % 4294967296=q
    generalize D / 2^s=E
    rw[aM0,aMR,Nat.add_assoc]
  obtain⟨s',n1,n2,n3,n4,n5,n6,n7,n8⟩:=next
  by_cases aBJ:((i+1:Nat):Int)<(k:Int)
  ·obtain⟨h,hh⟩:∃h,us[i+1]? = some h:=⟨_,aKI (by omega)⟩
   have hh2:vs[i+1]? = some h:=by rw[I1 (i+1) (by omega)];exact hh
   have hhD:D % 4294967296=h:=by
    have hh3:(us.take k)[i+1]? = some h:=by rw[aKY (by omega)];exact hh
    have:=xA (b:=4294967296) hh3
    rw[hD] at this
    have lh:=hd h (aLv hh)
    omega
   have f1:bK 1 (.ref 0 0 0 k N) (VI ((i+1:Nat):Int)) (H3 vs ws os)=some (.ptr 0 0 (i+1) 0):=by rw[bB E7 (by omega),aL9]
   have f2:bH false 1 (.ptr 0 0 (i+1) 0) (H3 vs ws os)=some (uV h):=kG E7 hh2
   have wh:IntKind.u64.wrap (h:Int)=(h:Int):=eZ _ (by omega)
   rw[hhD] at w5 w6 w7 n3
   simp only[nB,k8,k9,axN,atS,bZ,aBJ,hlen,e1,e2,e3,f1,f2,wi,wx,wh,w5,w6,w7,wrap32,VX,Nat.reduceEqDiff,Nat.reduceAdd]
   exact⟨s',n1,n2,n3,n4,n5,n6,n7,Ck,by rw[n8]⟩
  ·have hD0:D=0:=by
    rw[←hD,aMu (by rw[aMa];omega)]
    rfl
   subst hD0
   have w5':dK .shl (.int .u64 0) (.int .u64 32)=some (.int .u64 0):=GN 0 .u64 (by decide)
   have w6':IntKind.u64.wrap ((0:Int)+(x:Int))=(x:Int):=by rw[Int.zero_add];exact wx
   have w7':=anF x s hs
   simp only[Nat.zero_mod,Nat.zero_mul,aL9] at n3
   simp only[nB,k8,k9,axN,atS,bZ,aBJ,hlen,e1,e2,e3,wi,wx,w5',w6',w7',wrap32,VX,Nat.reduceEqDiff,Nat.reduceAdd]
   exact⟨s',n1,n2,n3,n4,n5,n6,n7,Ck,by rw[n8]⟩
 ·have mC:i=k:=by omega
  subst mC
  rw[aMu (by rw[aMa];omega)] at hv
  simp only[val,Nat.zero_div,aMH,aMI] at hv
  simp only[nB,k8,k9,axN,atS,bZ,VX,Nat.reduceEqDiff,Nat.reduceAdd]
  exact hQ _ vs k9 Ck HY Ju hv
end Go.PM
namespace Go.PM
theorem YP {jO vs us ws os:List Nat} {n u2 u1 u0 v1 v0 N k g left:Nat} (G:As 4294967296 jO vs n u2 u1 u0 v1 v0) {ρ:cW} {Q:VQ} (hN:us.length=N) (ZH:2≤k) (hkN:k<N) (Fm:N≤70368744177664) (hu0:us[k-2]? = some u0)
  (g9:ρ 9 = .ref 0 0 0 N N) (g11:ρ 11=VK .u64 v1) (g12:ρ 12=VK .u64 v0) (g15:ρ 15=VI k) (g17:ρ 17=VK .u64 g) (g18:ρ 18=VK .u64 left) (hh:u2*4294967296+u1=g*v1+left) (hq:val 4294967296 jO / val 4294967296 vs≤g) (hl:left<4294967296) (hgb:g<18446744073709551616)
  (hQ:∀(aQ:cW) (g':Nat),val 4294967296 jO / val 4294967296 vs≤g'→g'≤val 4294967296 jO / val 4294967296 vs+1→g'<4294967296→aQ 17=VK .u64 g'→aQ 8=ρ 8→aQ 9=ρ 9→aQ 10=ρ 10→aQ 11=ρ 11→aQ 12=ρ 12→aQ 13=ρ 13→aQ 14=ρ 14→aQ 15=ρ 15→Q (.exit 2) aQ (H3 us ws os)) :
  VW ⟨true,false⟩ 0 (.loop iC) Q ρ (H3 us ws os):=by
 have lv1:=G.Z8
 have lv0:=G.anN
 have lu0:=G.auJ
 have qlt:=G.arA
 have jZ:=G.pos
 refine aP (fun(t:Nat×Nat) aQ H=>H=H3 us ws os∧u2*4294967296+u1=t.1*v1+t.2∧val 4294967296 jO / val 4294967296 vs≤t.1∧t.2<4294967296∧t.1<18446744073709551616 ∧
  aQ 9 = .ref 0 0 0 N N∧aQ 11=VK .u64 v1∧aQ 12=VK .u64 v0∧aQ 15=VI k∧aQ 17=VK .u64 t.1∧aQ 18=VK .u64 t.2∧aQ 8=ρ 8∧aQ 10=ρ 10∧aQ 13=ρ 13∧aQ 14=ρ 14) (fun t=>4294967296-t.2) (g,left) ⟨rfl,hh,hq,hl,hgb,g9,g11,g12,g15,g17,g18,rfl,rfl,rfl,rfl⟩ ?_
 rintro⟨g,left⟩ tG H ⟨rfl,hh,hq,hl,hgb,k9,ZP,KZ,NC,Il,W9,k8,k10,Ck,Dh⟩
 simp only at hh hq hl hgb Il W9
 have e1:bK 1 (.ref 0 0 0 N N) (VI ((k-2:Nat):Int)) (H3 us ws os)=some (.ptr 0 0 (k-2) 0):=by rw[bB E7 (by omega),aL9]
 have e2:bH false 1 (.ptr 0 0 (k-2) 0) (H3 us ws os)=some (uV u0):=kG E7 hu0
 have wk:IntKind.i64.wrap ((k:Int)-2)=((k-2:Nat):Int):=wrapN _ (by omega) (by omega)
 have wu:IntKind.u64.wrap (u0:Int)=(u0:Int):=eZ _ (by omega)
 have ws:=GN left .u64 hl
 have wa:IntKind.u64.wrap (((left*4294967296:Nat):Int)+(u0:Int))=((left*4294967296+u0:Nat):Int):=by rw[←aMM];exact eZ _ (by omega)
 have wl:IntKind.u64.wrap ((left:Int)+(v1:Int))=((left+v1:Nat):Int):=by rw[←aMM];exact eZ _ (by omega)
 have same:tG 9=ρ 9∧tG 11=ρ 11∧tG 12=ρ 12∧tG 15=ρ 15:=⟨by rw[k9,g9],by rw[ZP,g11],by rw[KZ,g12],by rw[NC,g15]⟩
 obtain⟨s9,s11,s12,s15⟩:=same
 have down:val 4294967296 jO / val 4294967296 vs<g→∃g',g=g'+1∧IntKind.u64.wrap ((g:Int)-1)=(g':Int)∧u2*4294967296+u1=g'*v1+(left+v1)∧val 4294967296 jO / val 4294967296 vs≤g':=by
  intro h
  have hg1:1≤g:=aM7 (aK5 _) h
  obtain⟨g',rfl⟩:∃g',g=g'+1:=⟨g-1,by omega⟩
  refine⟨g',rfl,?_,?_,by omega⟩
  ·rw[show ((g'+1:Nat):Int)-1=(g':Int) by omega]
   exact eZ _ (by omega)
  ·rw[hh,aK6]
   omega
 by_cases hA:(4294967296:Int)≤(g:Int)
 ·obtain⟨g',hg',wg,YT,OM⟩:=down (by omega)
  by_cases hB:(4294967296:Int)≤((left+v1:Nat):Int)
  ·obtain⟨c1,c2⟩:=G.broken YT (by omega)
   simp only[iC,k9,ZP,KZ,NC,Il,W9,hA,hB,wg,wl,VX,Nat.reduceEqDiff,Nat.reduceAdd]
   exact hQ _ g' OM (G.aeY YT (by omega) c2) c1 rfl k8 s9 k10 s11 s12 Ck Dh s15
  ·simp only[iC,k9,ZP,KZ,NC,Il,W9,hA,hB,wg,wl,VX,Nat.reduceEqDiff,Nat.reduceAdd]
   exact⟨(g',left+v1),by simp only;omega,YT,OM,by simp only;omega,by simp only;omega,by rfl,by rfl,k8,k10,Ck,Dh⟩
 ·have hgv:g*v0≤4294967295*4294967295:=aMU (by omega) (by omega)
  have wm:IntKind.u64.wrap ((g:Int)*(v0:Int))=((g*v0:Nat):Int):=by rw[←aM1];exact eZ _ (by omega)
  by_cases hT:((left*4294967296+u0:Nat):Int)<((g*v0:Nat):Int)
  ·obtain⟨g',hg',wg,YT,OM⟩:=down (G.too hh (by omega))
   by_cases hB:(4294967296:Int)≤((left+v1:Nat):Int)
   ·obtain⟨c1,c2⟩:=G.broken YT (by omega)
    simp only[iC,k9,ZP,KZ,NC,Il,W9,hA,hB,hT,e1,e2,wk,wu,ws,wa,wm,wg,wl,VX,Nat.reduceEqDiff,Nat.reduceAdd]
    exact hQ _ g' OM (G.aeY YT (by omega) c2) c1 rfl k8 s9 k10 s11 s12 Ck Dh s15
   ·simp only[iC,k9,ZP,KZ,NC,Il,W9,hA,hB,hT,e1,e2,wk,wu,ws,wa,wm,wg,wl,VX,Nat.reduceEqDiff,Nat.reduceAdd]
    exact⟨(g',left+v1),by simp only;omega,YT,OM,by simp only;omega,by simp only;omega,by rfl,by rfl,k8,k10,Ck,Dh⟩
  ·simp only[iC,k9,ZP,KZ,NC,Il,W9,hA,hT,e1,e2,wk,wu,ws,wa,wm,VX,Nat.reduceEqDiff,Nat.reduceAdd]
   exact hQ _ g hq (G.aeY hh (by omega) (by omega)) (by omega) Il k8 s9 k10 s11 s12 Ck Dh s15
theorem OO {X S S' R V q Q P w:Nat} (hs:S=q*V+S') (h:X+P*S+P*w*V*Q=R):X+P*S'+P*V*(q+w*Q)=R:=by
 subst hs
 grind
theorem ahU {Hk ws os0 vs:List Nat} {N m n v1 v0 A s:Nat} {ρ:cW} {Q:VQ} (hN:Hk.length=N) (hm:m+(n+2)=N) (Fm:N≤70368744177664) (MB:∀d∈Hk,d<4294967296) (hws:ws.take (n+2)=vs) (hwl:ws.length=n+3) (HY:vs.length=n+2) (Ju:∀d∈vs,d<4294967296) (f1:vs[n+1]? = some v1) (f0:vs[n]? = some v0) (jZ:1≤v1)
  (hA:val 4294967296 Hk=A) (E0:val 4294967296 (Hk.drop m)<val 4294967296 vs) (iB:os0.length=m) (nK:∀d∈os0,d<4294967296)
  (g8:ρ 8=VI s) (g9:ρ 9 = .ref 0 0 0 N N) (g10:ρ 10 = .ref 1 0 0 (n+2) (n+3)) (g11:ρ 11=VK .u64 v1) (g12:ρ 12=VK .u64 v0) (g13:ρ 13 = .ref 2 0 0 m m) (g14:ρ 14=VI ((m:Int)-1))
  (hQ:∀(aQ:cW) (us os:List Nat),aQ 8=VI s→aQ 9 = .ref 0 0 0 N N→aQ 13 = .ref 2 0 0 m m→us.length=N→(∀d∈us,d<4294967296)→os.length=m→(∀d∈os,d<4294967296)→val 4294967296 us+val 4294967296 vs*val 4294967296 os=A→val 4294967296 us<val 4294967296 vs→Q (.exit 0) aQ (H3 us ws os)) :
  VW ⟨true,false⟩ 0 (.loop qR) Q ρ (H3 Hk ws os0):=by
 have hVb:=sF Ju
 rw[HY] at hVb
 refine aP (fun(t:Nat×List Nat×List Nat) aQ H=>t.1≤m∧H=H3 t.2.1 ws t.2.2∧t.2.1.length=N∧(∀d∈t.2.1,d<4294967296)∧t.2.2.length=m∧(∀d∈t.2.2,d<4294967296)∧val 4294967296 (t.2.1.drop t.1)<val 4294967296 vs∧val 4294967296 t.2.1+4294967296^t.1*val 4294967296 vs*val 4294967296 (t.2.2.drop t.1)=A ∧
  aQ 8=VI s∧aQ 9 = .ref 0 0 0 N N∧aQ 10 = .ref 1 0 0 (n+2) (n+3)∧aQ 11=VK .u64 v1∧aQ 12=VK .u64 v0∧aQ 13 = .ref 2 0 0 m m∧aQ 14=VI ((t.1:Int)-1)) (fun t=>t.1) (m,Hk,os0) ⟨aKB _,rfl,hN,MB,iB,nK,E0,by rw[aMu (by simp only;omega)];simpa[val] using hA,g8,g9,g10,g11,g12,g13,g14⟩ ?_
 rintro⟨j,us,os⟩ tG H ⟨hj,rfl,T0,MB,iB,nK,bI,hv,k8,k9,k10,ZP,KZ,Ck,Dh⟩
 simp only at hj T0 MB iB nK bI hv Dh
 by_cases hz:(0:Int)≤(j:Int)-1
 ·obtain⟨i,rfl⟩:∃i,j=i+1:=⟨j-1,by omega⟩
  have Ed:((i+1:Nat):Int)-1=(i:Int):=by omega
  rw[Ed] at Dh hz
  obtain⟨XK,Dn,Tv,hsW,aiM,amA,xQ⟩:=adF (n:=n+2) T0 (by omega) MB hVb bI
  generalize acB:(us.drop i).take (n+2+1)=jO at *
  have Tk:∀d∈jO,d<4294967296:=fun d hd=>by rw[←acB] at hd;exact MB d (aLz (aLy hd))
  obtain⟨u2,hu2⟩:∃u2,us[i+(n+2)]? = some u2:=⟨_,aKI (by omega)⟩
  obtain⟨u1,hu1⟩:∃u1,us[i+(n+1)]? = some u1:=⟨_,aKI (by omega)⟩
  obtain⟨u0,hu0⟩:∃u0,us[i+n]? = some u0:=⟨_,aKI (by omega)⟩
  have G:As 4294967296 jO vs n u2 u1 u0 v1 v0:=⟨by decide,Tk,Ju,Tv,HY,by rw[xQ _ (by omega)];exact hu2,by rw[xQ _ (by omega)];exact hu1,by rw[xQ _ (by omega)];exact hu0,f1,f0,jZ,hsW⟩
  have lu2:=G.auA
  have lu1:=G.aiT
  have lv1:=G.Z8
  have qlt:=G.arA
  have KI:=G.KI
  have ayI:rL (.ref 1 0 0 (n+2) (n+3)) (H3 us ws os)=some (VI ((n+2:Nat):Int)):=eK aA6
  have w1:IntKind.i64.wrap ((i:Int)+((n+2:Nat):Int))=((i+(n+2):Nat):Int):=by rw[←aMM];exact wrapN _ rfl (by omega)
  have w2:IntKind.i64.wrap (((i+(n+2):Nat):Int)-1)=((i+(n+1):Nat):Int):=wrapN _ (by omega) (by omega)
  have e2:bK 1 (.ref 0 0 0 N N) (VI ((i+(n+2):Nat):Int)) (H3 us ws os)=some (.ptr 0 0 (i+(n+2)) 0):=by rw[bB E7 (by omega),aL9]
  have e1:bK 1 (.ref 0 0 0 N N) (VI ((i+(n+1):Nat):Int)) (H3 us ws os)=some (.ptr 0 0 (i+(n+1)) 0):=by rw[bB E7 (by omega),aL9]
  have l2:bH false 1 (.ptr 0 0 (i+(n+2)) 0) (H3 us ws os)=some (uV u2):=kG E7 hu2
  have l1:bH false 1 (.ptr 0 0 (i+(n+1)) 0) (H3 us ws os)=some (uV u1):=kG E7 hu1
  have wu2:IntKind.u64.wrap (u2:Int)=(u2:Int):=eZ _ (by omega)
  have wu1:IntKind.u64.wrap (u1:Int)=(u1:Int):=eZ _ (by omega)
  have ws2:=GN u2 .u64 lu2
  have wa:IntKind.u64.wrap (((u2*4294967296:Nat):Int)+(u1:Int))=((u2*4294967296+u1:Nat):Int):=by rw[←aMM];exact eZ _ (by omega)
  have q1:=Z1 (u2*4294967296+u1) v1 (by omega) jZ
  have q2:=SY (u2*4294967296+u1) v1 jZ
  simp only[qR,k8,k9,k10,ZP,KZ,Ck,Dh,hz,ayI,w1,w2,e1,e2,l1,l2,wu1,wu2,ws2,wa,q1,q2,VX,Nat.reduceEqDiff,Nat.reduceAdd]
  have hh:=aMK (u2*4294967296+u1) v1
  have hml:=aK3 (u2*4294967296+u1) jZ
  have hdl:(u2*4294967296+u1) / v1≤u2*4294967296+u1:=aM8 _ _
  have T3:val 4294967296 jO / val 4294967296 vs≤(u2*4294967296+u1) / v1:=by
   have t1:=(Fw (n:=n+1) (xs:=jO) Tk (by omega) (by rw[xQ _ (by omega)];exact hu2) (by rw[xQ _ (by omega)];exact hu1)).2
   have t2:=(Cp (n:=n+1) Ju HY f1).1
   rw[aM9 jZ]
   have t3:val 4294967296 jO / val 4294967296 vs*(v1*4294967296^(n+1))≤val 4294967296 jO / val 4294967296 vs*val 4294967296 vs:=aMA _ t2
   have t4:=aNa (val 4294967296 jO) (val 4294967296 vs)
   have t5:val 4294967296 jO / val 4294967296 vs*v1*4294967296^(n+1)<(u2*4294967296+u1+1)*4294967296^(n+1):=by rw[aMR];omega
   have:=aMB t5
   omega
  refine YP (k:=i+(n+2)) G T0 (by omega) (by omega) Fm (by rw[show i+(n+2)-2=i+n by omega];exact hu0) k9 ZP KZ (by rfl) (by rfl) (by rfl) (by rw[aL3 ((u2*4294967296+u1) / v1)];omega) T3 (by omega) (by omega) ?_
  intro vL g' hq OM hgW r17 r8 r9 r10 r11 r12 r13 r14 r15
  have Vt:vL 15=VI ((i+(n+2):Nat):Int):=r15
  have r8':vL 8=VI s:=r8.trans k8
  have r9':vL 9 = .ref 0 0 0 N N:=r9.trans k9
  have azX:vL 10 = .ref 1 0 0 (n+2) (n+3):=r10.trans k10
  have ayF:vL 11=VK .u64 v1:=r11.trans ZP
  have Ul:vL 12=VK .u64 v0:=r12.trans KZ
  have Vr:vL 13 = .ref 2 0 0 m m:=r13.trans Ck
  have UA:vL 14=VI i:=r14.trans Dh
  have w3:IntKind.i64.wrap (((i+(n+2):Nat):Int)+1)=((i+(n+3):Nat):Int):=wrapN _ (by omega) (by omega)
  have aiK:Hq 1 (.ref 0 0 0 N N) (some (VI i)) (some (VI ((i+(n+3):Nat):Int))) none (H3 us ws os)=some (.ref 0 0 i (n+3) (N-i)):=by
   rw[O0 E7 (by omega) (by omega),aL9,Nat.add_sub_cancel_left]
  simp only[r8',r9',azX,ayF,Ul,Vr,UA,Vt,r17,w3,aiK,VX,Nat.reduceEqDiff,Nat.reduceAdd]
  have xG:g'*val 4294967296 vs≤val 4294967296 jO+val 4294967296 vs:=by
   have:=aK2 (val 4294967296 vs) OM
   rw[aK6,aNb] at this
   have:=aNa (val 4294967296 jO) (val 4294967296 vs)
   omega
  refine gC rfl ((Xw (pre:=us.take i) (jO:=jO) (post:=us.drop (i+(n+2+1))) (L:=n+3) (o:=i) (by rw[←XK];exact E7) (aA6 (us:=us) (ws:=ws) (os:=os)) (by decide) (aK5 _) Dn Tv (by omega) hws (by omega) (by omega) Tk Ju hgW xG).mono ?_)
  rintro r H' ⟨uP,rfl,Fo,hd',hr⟩
  generalize apV:us.take i++uP++us.drop (i+(n+2+1))=IQ at *
  have Lb:(H3 us ws os).set 0 (.row 0 (IQ.map uV) 1 true)=H3 IQ ws os:=rfl
  rw[Lb]
  have avS:IQ.length=N:=by rw[←apV,aKM,aKM,Dn,Fo,aM2];omega
  have asJ:∀d∈IQ,d<4294967296:=fun d hd=>by
   rw[←apV,aLx,aLx] at hd
   rcases hd with(hd | hd) | hd
   ·exact MB d (aLy hd)
   ·exact hd' d hd
   ·exact MB d (aLz hd)
  have Y0:IQ.drop i=uP++us.drop (i+(n+2+1)):=by rw[←apV,aMn,List.drop_append,aMu (by omega),Dn];simp
  have YA:IQ.take i=us.take i:=by rw[←apV,aMn,aNc (by omega),aLu (by omega)]
  have Uj:val 4294967296 (IQ.drop i)=val 4294967296 uP:=by rw[Y0,BE,amA,aMH,aMI]
  have digit:∀q:Nat,q=val 4294967296 jO / val 4294967296 vs→val 4294967296 uP=val 4294967296 jO % val 4294967296 vs →
    val 4294967296 (IQ.drop i)<val 4294967296 vs∧val 4294967296 IQ+4294967296^i*val 4294967296 vs*val 4294967296 ((os.set i q).drop i)=A:=by
   rintro q Xa hse
   have asE:=aK3 (val 4294967296 jO) KI
   refine⟨by rw[Uj,hse];exact asE,?_⟩
   have h1:=aNd (val 4294967296 jO) (val 4294967296 vs)
   rw[←Xa,←hse,aL3] at h1
   have h2:=sP (b:=4294967296) us i
   have h3:=sP (b:=4294967296) IQ i
   rw[YA,Dn,Uj] at h3
   rw[Dn,aiM] at h2
   rw[set_drop (by omega),vQ,h3]
   rw[h2,aL2] at hv
   exact OO h1.symm hv
  have e3:∀d:Nat,bK 1 (.ref 2 0 0 m m) (VI i) (H3 IQ ws os)=some (.ptr 2 0 i 0)∧bL 0 1 (.ptr 2 0 i 0) (uV d) (H3 IQ ws os)=some (H3 IQ ws (os.set i d)):=fun d=>by
   refine⟨by rw[bB atY (by omega),aL9],?_⟩
   rw[dQ (f:=uV) (e:=1) atY (by omega) (aK5 _) rfl rfl]
   rfl
  have wi:IntKind.i64.wrap ((i:Int)-1)=(i:Int)-1:=wrap64 (by omega) (by omega)
  rcases hr with⟨rfl,hr⟩ | ⟨rfl,T4,hr2⟩
  ·have Hl:g'*val 4294967296 vs≤val 4294967296 jO:=by omega
   have Xa:g'=val 4294967296 jO / val 4294967296 vs:=by
    have:=(aM9 KI).2 Hl
    omega
   have hse:val 4294967296 uP=val 4294967296 jO % val 4294967296 vs:=by
    have h1:=aNd (val 4294967296 jO) (val 4294967296 vs)
    rw[←Xa,aL3] at h1
    omega
   obtain⟨d1,d2⟩:=digit g' Xa hse
   simp only[r8',r9',azX,ayF,Ul,Vr,UA,Vt,r17,(e3 g').1,(e3 g').2,wi,wrap32,aL5 hgW,VX,Nat.reduceEqDiff,Nat.reduceAdd]
   exact⟨(i,IQ,os.set i g'),by simp only;omega,by omega,rfl,avS,asJ,by rw[aMz];exact iB,nW nK hgW,d1,d2,by (repeat' apply aMh)<;>first | rfl | trivial⟩
  ·have ahC:val 4294967296 jO / val 4294967296 vs<g':=(Nat.div_lt_iff_lt_mul KI).2 T4
   have hg1:1≤g':=aM7 (aK5 _) ahC
   obtain⟨q,rfl⟩:∃q,g'=q+1:=⟨g'-1,by omega⟩
   have Xa:q=val 4294967296 jO / val 4294967296 vs:=by omega
   have hse:val 4294967296 uP=val 4294967296 jO % val 4294967296 vs:=by
    have h1:=aNd (val 4294967296 jO) (val 4294967296 vs)
    rw[←Xa,aL3] at h1
    rw[aK6,aNb] at hr2
    omega
   have wq:IntKind.u64.wrap (((q+1:Nat):Int)-1)=(q:Int):=by rw[show ((q+1:Nat):Int)-1=(q:Int) by omega];exact eZ _ (by omega)
   obtain⟨d1,d2⟩:=digit q Xa hse
   simp only[r8',r9',azX,ayF,Ul,Vr,UA,Vt,r17,wq,(e3 q).1,(e3 q).2,wi,wrap32,aL5 (show q<4294967296 by omega),VX,Nat.reduceEqDiff,Nat.reduceAdd]
   exact⟨(i,IQ,os.set i q),by simp only;omega,by omega,rfl,avS,asJ,by rw[aMz];exact iB,nW nK (by omega),d1,d2,by (repeat' apply aMh)<;>first | rfl | trivial⟩
 ·have Xk:j=0:=by omega
  subst Xk
  rw[aLN] at bI
  rw[Nat.pow_zero,aNb,aLN] at hv
  simp only[qR,k8,k9,k10,ZP,KZ,Ck,Dh,hz,VX,Nat.reduceEqDiff,Nat.reduceAdd]
  exact hQ _ us os k8 k9 Ck T0 MB iB nK hv bI
end Go.PM
namespace Go.PM
theorem Oh {a n:Nat} (hn:(aD 4294967296 a).length=n+1):∃d,(aD 4294967296 a)[n]? = some d∧d≠0∧d<4294967296:=by
 obtain⟨d,hd⟩:∃d,(aD 4294967296 a)[n]? = some d:=⟨_,aKI (by omega)⟩
 refine⟨d,hd,fun h0 => ?_,gK (by decide) a d (aLv hd)⟩
 have:=Rb (b:=4294967296) (by decide) a
 rw[List.getLast?_eq_getElem?,hn,Nat.add_sub_cancel,hd,h0] at this
 exact this rfl
theorem Un {a d:Nat} (h:aD 4294967296 a=[d]):a=d∧0<d∧d<4294967296:=by
 have h1:=cN (b:=4294967296) (by decide) a
 rw[h,val_one] at h1
 obtain⟨e,h2,h3,h4⟩:=Oh (a:=a) (n:=0) (by rw[h];rfl)
 rw[h] at h2
 cases h2
 exact⟨h1.symm,by omega,h4⟩
theorem BM (a b:Nat) (hb:b≠0) (ha:(aD 4294967296 a).length≤17592186044416) (zE:(aD 4294967296 b).length≤17592186044416):TC 183 [bR a,bR b] (.eJ [bR (a / b),bR (a % b)]):=by
 refine TC.walk ⟨true,false⟩ Kt rfl (aMp rfl) (by simp[aO,bW]) (by simp[hJ,sR,tX]) ?_
 have c1:=lX a b ha zE
 by_cases I0:gH a b<0
 ·have bI:a<b:=by
   unfold gH at I0
   split at I0
   ·assumption
   ·split at I0<;>omega
  simp only[wJ,sL,c1,I0,VX,Nat.reduceEqDiff,Nat.reduceAdd]
  rw[aL8 bI,aL5 bI]
  exact bO (d:=6) Az (aN (bW a))
 have Hl:b≤a:=by
  unfold gH at I0
  split at I0
  ·omega
  ·omega
 have hbn:(aD 4294967296 b).length≠0:=fun h=>hb ((nT (b:=4294967296) (by decide)).1 (List.length_eq_zero_iff.1 h))
 by_cases h1:(((aD 4294967296 b).length:Nat):Int)=1
 ·obtain⟨d,hd⟩:∃d,aD 4294967296 b=[d]:=by
   match hx:aD 4294967296 b with
   | []=>rw[hx] at hbn;exact absurd rfl hbn
   | [d]=>exact⟨d,rfl⟩
   | _::_::_=>rw[hx] at h1;simp at h1;omega
  obtain⟨rfl,Ft,hdW⟩:=Un hd
  have c2:=Av a b Ft hdW ha
  have e0:rL (bR b) []=some (VI 1):=by rw[bR,Dd,eW,hd];rfl
  have e1:bK 1 (bR b) (VI 0) []=some (.cJ (uV b) 0):=by
   rw[bR,hd]
   exact aI (f:=uV) (t := .op) (H:=[]) (size:=1) (k := .i64) (xs:=[b]) (i:=0) rfl rfl
  have e2:=iY (H:=[]) (z:=[.int .u32 0]) (v:=uV (a % b)) rfl rfl rfl
  have e3:=ahV (size:=1) (v:=Value.int .u32 ((b:Nat):Int))
  simp only[wJ,sL,c1,I0,e0,e1,c2,e2,VX,Nat.reduceEqDiff,Nat.reduceAdd]
  refine Qf (ds:=[a % b]) (t := .cl 1) (fun d hd => ?_) (by show 1≤70368744177664;decide) (val_one _) fun t' ht => ?_
  ·rw[List.mem_singleton] at hd
   subst hd
   exact aKD (aK3 _ Ft) (aLi hdW)
  ·simp only[VX,Nat.reduceEqDiff,Nat.reduceAdd]
   exact bO (d:=6) (aN (bW _)) (alR (d:=5) ht)
 obtain⟨n,hn⟩:∃n,(aD 4294967296 b).length=n+2:=⟨(aD 4294967296 b).length-2,by omega⟩
 obtain⟨t,ht,ht0,htW⟩:=Oh (a:=b) (n:=n+1) hn
 obtain⟨s,hs,cl,anO⟩:=XE ht0 htW
 have hS:0<2^s:=Nat.pow_pos (by decide)
 have hSW:2^s*2^(32-s)=4294967296:=by rw[←Nat.pow_add,show s+(32-s)=32 by omega]
 have hla:=fB (b:=4294967296) (by decide) Hl
 have e0:rL (bR b) []=some (VI ((n+2:Nat):Int)):=by rw[bR,Dd,eW,hn]
 have w0:IntKind.i64.wrap (((n+2:Nat):Int)-1)=((n+1:Nat):Int):=wrapN _ (by omega) (by omega)
 have h1':¬(((n+2:Nat):Int)=1):=by omega
 have e1:bK 1 (bR b) (VI ((n+1:Nat):Int)) []=some (.cJ (uV t) 0):=aI (f:=uV) (t := .op) (H:=[]) (size:=1) (k := .i64) ht rfl
 simp only[wJ,sL,c1,I0,e0,h1',w0,e1,cl,VX,Nat.reduceEqDiff,Nat.reduceAdd]
 have fa:[bR a,VI (s:Int)].mapM (fz depth ([]:aA))=some [bR a,VI (s:Int)]:=fz2 (aL (bW a)) (aL rfl)
 refine FC.call (Bf a s hs ha) rfl fa ?_
 rintro r L ⟨Lu,rfl,rfl,hAl,hAd,hAv,hAt⟩
 simp only[VX,Nat.reduceEqDiff,Nat.reduceAdd]
 have fb:∀H:aA,[bR b,VI (s:Int)].mapM (fz depth H)=some [bR b,VI (s:Int)]:=fun H=>fz2 (aL (bW b)) (aL rfl)
 refine FC.call (Bf b s hs zE) rfl (fb _) ?_
 rintro r L ⟨Hj,rfl,rfl,hBl,hBd,hBv,hBt⟩
 rw[hn] at hBl
 simp only[hn,List.length_singleton,VX,Nat.reduceEqDiff,Nat.reduceAdd]
 have azY:b*2^s<4294967296^(n+2):=by
  have h2:=(Cp (n:=n+1) (gK (b:=4294967296) (by decide) b) hn ht).2
  rw[cN (by decide)] at h2
  have h3:b*2^s<(t+1)*4294967296^(n+1)*2^s:=aM6 h2 hS
  have h4:(t+1)*4294967296^(n+1)*2^s=(t+1)*2^s*4294967296^(n+1):=by grind
  have h5:(t+1)*2^s≤4294967296:=by
   have h6:t*2^s<2^(32-s)*2^s:=by rw[aL3 (2^(32-s)),hSW];exact anO
   have h7:=aMB h6
   have h8:(t+1)*2^s≤2^(32-s)*2^s:=aK2 _ h7
   rwa [aL3 (2^(32-s)),hSW] at h8
  have h9:(t+1)*2^s*4294967296^(n+1)≤4294967296*4294967296^(n+1):=aK2 _ h5
  have h10:4294967296*4294967296^(n+1)=4294967296^(n+2):=by rw[aL2 4294967296 (n+1)];exact aL3 _ _
  omega
 have hVl:(aD 4294967296 (b*2^s)).length=n+2:=by
  have h2:=oM (b:=4294967296) (by decide) azY
  have h3:b≤b*2^s:=Nat.le_mul_of_pos_right b hS
  have h4:=fB (b:=4294967296) (by decide) h3
  omega
 refine vH (rows:=Hj) (m:=b*2^s) (by rfl) (by omega) (by omega) (by omega) (fun d hd=>hBd d (aLy hd)) (by rw[aLu (by omega)];exact hBv) fun k hk he => ?_
 have ZH:k=n+2:=by
  have:=congrArg List.length he
  rw[hVl,aMa] at this
  omega
 subst ZH
 generalize TZ:aD 4294967296 (b*2^s)=vs at *
 have Ju:∀d∈vs,d<4294967296:=by rw[←TZ];exact gK (by decide) _
 have Qr:val 4294967296 vs=b*2^s:=by rw[←TZ];exact cN (by decide) _
 obtain⟨v1,f1⟩:∃v1,vs[n+1]? = some v1:=⟨_,aKI (by omega)⟩
 obtain⟨v0,f0⟩:∃v0,vs[n]? = some v0:=⟨_,aKI (by omega)⟩
 have hv1:1≤v1:=by
  obtain⟨d,hd,Ft,_⟩:=Oh (a:=b*2^s) (n:=n+1) (by rw[TZ];exact hVl)
  rw[TZ,f1] at hd
  cases hd
  omega
 have b1:Hj[n+1]? = some v1:=by rw[←f1,←he,aKY (by omega)]
 have b0:Hj[n]? = some v0:=by rw[←f0,←he,aKY (by omega)]
 have lv1:=Ju v1 (aLv f1)
 have lv0:=Ju v0 (aLv f0)
 have x1:bK 1 (.ref 1 0 0 (n+2) (n+2+1)) (VI ((n+1:Nat):Int)) [.row 0 (Lu.map uV) 1 true,.row 0 (Hj.map uV) 1 true]=some (.ptr 1 0 (n+1) 0):=by rw[bB (by rfl) (by omega),aL9]
 have x0:bK 1 (.ref 1 0 0 (n+2) (n+2+1)) (VI ((n:Nat):Int)) [.row 0 (Lu.map uV) 1 true,.row 0 (Hj.map uV) 1 true]=some (.ptr 1 0 n 0):=by rw[bB (by rfl) (by omega),aL9]
 have y1:bH false 1 (.ptr 1 0 (n+1) 0) [.row 0 (Lu.map uV) 1 true,.row 0 (Hj.map uV) 1 true]=some (uV v1):=kG (rows:=Hj) (g:=0) (w:=true) (by rfl) b1
 have y0:bH false 1 (.ptr 1 0 n 0) [.row 0 (Lu.map uV) 1 true,.row 0 (Hj.map uV) 1 true]=some (uV v0):=kG (rows:=Hj) (g:=0) (w:=true) (by rfl) b0
 have z0:rL (.ref 1 0 0 (n+2) (n+2+1)) [.row 0 (Lu.map uV) 1 true,.row 0 (Hj.map uV) 1 true]=some (VI ((n+2:Nat):Int)):=eK (r:=(Hj.map uV,1,true)) (by rfl)
 have z1:rL (.ref 0 0 0 ((aD 4294967296 a).length+1) ((aD 4294967296 a).length+1)) [.row 0 (Lu.map uV) 1 true,.row 0 (Hj.map uV) 1 true]=some (VI (((aD 4294967296 a).length+1:Nat):Int)):=eK (r:=(Lu.map uV,1,true)) (by rfl)
 have w2:IntKind.i64.wrap (((n+2:Nat):Int)-2)=((n:Nat):Int):=wrapN _ (by omega) (by omega)
 have wv1:IntKind.u64.wrap (v1:Int)=(v1:Int):=eZ _ (by omega)
 have wv0:IntKind.u64.wrap (v0:Int)=(v0:Int):=eZ _ (by omega)
 obtain⟨m,hm⟩:∃m,m+(n+2)=(aD 4294967296 a).length+1:=⟨(aD 4294967296 a).length+1-(n+2),by omega⟩
 have wm:IntKind.i64.wrap ((((aD 4294967296 a).length+1:Nat):Int)-((n+2:Nat):Int))=(m:Int):=wrapN _ (by omega) (by omega)
 have wm1:IntKind.i64.wrap ((m:Int)-1)=(m:Int)-1:=wrap64 (by omega) (by omega)
 have mk:=ZN m 0 (by omega) (H:=[.row 0 (Lu.map uV) 1 true,.row 0 (Hj.map uV) 1 true])
 have z2:rL (.ref 2 0 0 m m) (H3 Lu Hj (aLr m 0))=some (VI m):=eK (r:=((aLr m 0).map uV,1,true)) (by rfl)
 simp only[w0,x1,x0,y1,y0,z0,z1,w2,wv1,wv0,wm,mk,z2,wm1,List.length_cons,List.length_nil,VX,Nat.reduceEqDiff,Nat.reduceAdd]
 have E0:val 4294967296 (Lu.drop m)<val 4294967296 vs:=by
  obtain⟨d,hd⟩:∃d,Lu[(aD 4294967296 a).length]? = some d:=⟨_,aKI (by omega)⟩
  have h2:=(Cp (b:=4294967296) (xs:=Lu.drop m) (n:=n+1) (t:=d) (fun x hx=>hAd x (aLz hx)) (by rw[aM2];omega) (by rw[aKz,show m+(n+1)=(aD 4294967296 a).length by omega];exact hd)).2
  have h3:=hAt d hd
  have h4:=(Cp (n:=n+1) (gK (b:=4294967296) (by decide) b) hn ht).1
  rw[cN (by decide)] at h4
  have h5:(d+1)*4294967296^(n+1)≤2^s*4294967296^(n+1):=aK2 _ h3
  have h6:1*4294967296^(n+1)≤t*4294967296^(n+1):=aK2 _ (by omega)
  have h7:1*4294967296^(n+1)*2^s≤b*2^s:=aK2 _ (by omega)
  rw[Qr]
  rw[aNb,aL3] at h7
  omega
 refine ahU (Hk:=Lu) (ws:=Hj) (os0:=aLr m 0) (vs:=vs) (N:=(aD 4294967296 a).length+1) (m:=m) (n:=n) (A:=a*2^s) (s:=s) hAl hm (by omega) hAd he hBl hVl Ju f1 f0 hv1 hAv E0 (by simp) (Cw (by decide) _) (by rfl) (by rfl) (by rfl) (by rfl) (by rfl) (by rfl) (by rfl) ?_
 intro AS us os r8 r9 r13 T0 MB iB nK hv bI
 rw[Qr] at hv bI
 have hq:val 4294967296 os=a / b:=by
  rw[←Nat.mul_div_mul_right a b hS,←hv,aM3 _ _ (by omega),aL8 bI,aL9]
 have hr:val 4294967296 us=a % b*2^s:=by
  rw[←Nat.mul_mod_mul_right,←hv,aM4,aL5 bI]
 simp only[r9,VX,Nat.reduceEqDiff,Nat.reduceAdd]
 refine vH (rows:=us) (m:=a % b*2^s) E7 (by omega) (aKB _) (by omega) (fun d hd=>MB d (aLy hd)) (by rw[aLu (by omega)];exact hr) fun k hk he2 => ?_
 have z3:rL (.ref 0 0 0 k ((aD 4294967296 a).length+1)) (H3 us Hj os)=some (VI k):=eK E7
 simp only[z3,VX,Nat.reduceEqDiff,Nat.reduceAdd]
 refine aeK (us:=us) (k:=k) (N:=(aD 4294967296 a).length+1) (s:=s) (w0:=2^(32-s)) hs hSW T0 hk (by omega) MB r8 (by rfl) (by rfl) (by rfl) ?_
 intro tG IQ q9 q13 avS asJ hv'
 have aDS:tG 13 = .ref 2 0 0 m m:=q13.trans r13
 have F2:val 4294967296 (IQ.take k)=a % b:=by
  rw[hv',he2,cN (by decide),Nat.mul_div_cancel _ hS]
 simp only[q9,aDS,VX,Nat.reduceEqDiff,Nat.reduceAdd]
 refine vH (rows:=os) (m:=a / b) atY (by omega) (aKB _) (by omega) (fun d hd=>nK d (aLy hd)) (by rw[aLu (by omega)];exact hq) fun k2 ZH he3 => ?_
 simp only[q9,VX,Nat.reduceEqDiff,Nat.reduceAdd]
 refine vH (rows:=IQ) (m:=a % b) E7 (by omega) hk (by omega) (fun d hd=>asJ d (aLy hd)) F2 fun k3 hk3 he4 => ?_
 simp only[VX,Nat.reduceEqDiff,Nat.reduceAdd]
 exact bO (d:=6) (NI (d:=5) atY (by omega) ZH he3) (NI (d:=5) E7 (by omega) (by omega) he4)
end Go.PM
namespace Go.PM
abbrev H2 (us os:List Nat):aA:=[.row 0 (us.map tV) 1 true,.row 0 (os.map tV) 1 true]
theorem YD {us os:List Nat}:aG (H2 us os) 0 0=some (us.map tV,1,true):=rfl
theorem aCj {us os:List Nat}:aG (H2 us os) 1 0=some (os.map tV,1,true):=rfl
theorem atQ {P a Z:Nat} {y:Int} (h:(a:Int)+(P:Int)*y=(Z:Int)) (ha:a<P) (hZ:Z<P):y=0∧a=Z:=by
 have hy:y=0:=by
  rcases Int.lt_trichotomy y 0 with h1 | h1 | h1
  ·have:(P:Int)*y≤(P:Int)*(-1):=aNe (by omega) (by omega)
   omega
  ·exact h1
  ·have:(P:Int)*1≤(P:Int)*y:=aNe (by omega) (by omega)
   omega
 subst hy
 rw[Int.mul_zero] at h
 exact⟨rfl,by omega⟩
theorem Yg {us:List Nat} {i n N V:Nat} (hN:us.length=N) (bZ:i+n<N) (hd:∀d∈us,d<1000000000) (hV:V<1000000000^n) (E0:val 1000000000 (us.drop (i+1))<V) :
  us=us.take i++(us.drop i).take (n+1)++us.drop (i+(n+1))∧(us.take i).length=i∧((us.drop i).take (n+1)).length=n+1∧val 1000000000 ((us.drop i).take (n+1))<1000000000*V∧val 1000000000 (us.drop i)=val 1000000000 ((us.drop i).take (n+1))∧val 1000000000 (us.drop (i+(n+1)))=0∧∀j,j<n+1→((us.drop i).take (n+1))[j]? = us[i+j]? := by
 obtain⟨x,hx⟩:∃x,us[i]? = some x:=⟨_,aKI (by omega)⟩
 have lx:=hd x (aLv hx)
 have h1:=xA (b:=1000000000) hx
 have h2:val 1000000000 (us.drop i)<1000000000*V:=by
  have:1000000000*(val 1000000000 (us.drop (i+1))+1)≤1000000000*V:=aMA _ E0
  omega
 have h3:=sP (b:=1000000000) (us.drop i) (n+1)
 have h4:((us.drop i).take (n+1)).length=n+1:=by rw[aMa,aM2];omega
 rw[h4,aLB] at h3
 have h5:val 1000000000 (us.drop (i+(n+1)))=0:=by
  rcases Nat.eq_zero_or_pos (val 1000000000 (us.drop (i+(n+1)))) with h | h
  ·exact h
  ·have h6:1000000000^(n+1)*1≤1000000000^(n+1)*val 1000000000 (us.drop (i+(n+1))):=aMA _ h
   have h7:1000000000*V≤1000000000^(n+1):=by rw[aL2,aL3];exact aK2 _ (by omega)
   omega
 rw[h5,aMH,aMI] at h3
 refine⟨?_,by rw[aMa];omega,h4,by omega,h3,h5,fun j hj => ?_⟩
 ·rw[aMn,←aLB,aLK,aLK]
 ·rw[aKY hj,aKz]
theorem leT {g:Nat} (h:(1000000000:Int)≤(g:Int)):1000000000≤g:=by omega
theorem ajT {g:Nat} (h:¬(1000000000:Int)≤(g:Int)):g<1000000000:=by omega
theorem ltC {a b:Nat} (h:(a:Int)<(b:Int)):a<b:=by omega
theorem aD5 {a b:Nat} (h:¬(a:Int)<(b:Int)):b≤a:=by omega
theorem Sa {a:Nat} (h:a*1000000000≤9223372036854775807):IntKind.i64.wrap ((a:Int)*1000000000)=((a*1000000000:Nat):Int):=wrapN _ (by omega) h
theorem RS {a b:Nat} (h:a+b≤9223372036854775807):IntKind.i64.wrap ((a:Int)+(b:Int))=((a+b:Nat):Int):=wrapN _ (by omega) h
theorem adO {a b:Nat} (h:a*b≤9223372036854775807):IntKind.i64.wrap ((a:Int)*(b:Int))=((a*b:Nat):Int):=wrapN _ (by simp) h
theorem x17 {a:Nat} (h:a<1000000000):a*1000000000≤9223372036854775807:=by omega
theorem x18 {a b:Nat} (h:a<1000000000) (hb:b<1000000000):a*1000000000+b≤1000000000000000000:=by omega
theorem WZ {jO vs us os:List Nat} {n u2 u1 u0 v1 v0 N i g left:Nat} (G:As 1000000000 jO vs n u2 u1 u0 v1 v0) {ρ:cW} {Q:VQ} (hN:us.length=N) (hiN:i+(n+2)<N) (Fm:N≤70368744177664) (hu0:us[i+n]? = some u0)
  (g13:ρ 13 = .ref 0 0 0 N N) (g14:ρ 14=jI vs) (g15:ρ 15=VI ((n+2:Nat):Int)) (g17:ρ 17=VI i) (g19:ρ 19=VI g) (g20:ρ 20=VI left) (hh:u2*1000000000+u1=g*v1+left) (hq:val 1000000000 jO / val 1000000000 vs≤g) (hl:left<1000000000) (hgb:g≤1000000000000000000)
  (hQ:∀(aQ:cW) (g':Nat),val 1000000000 jO / val 1000000000 vs≤g'→g'≤val 1000000000 jO / val 1000000000 vs+1→g'<1000000000→aQ 19=VI g'→aQ 12=ρ 12→aQ 13=ρ 13→aQ 14=ρ 14→aQ 15=ρ 15→aQ 16=ρ 16→aQ 17=ρ 17→Q (.exit 2) aQ (H2 us os)) :
  VW ⟨true,false⟩ 0 (.loop iH) Q ρ (H2 us os):=by
 have lv1:=G.Z8
 have lv0:=G.anN
 have lu0:=G.auJ
 have qlt:=G.arA
 have jZ:=G.pos
 have HY:=G.PB
 refine aP (fun(t:Nat×Nat) aQ H=>H=H2 us os∧u2*1000000000+u1=t.1*v1+t.2∧val 1000000000 jO / val 1000000000 vs≤t.1∧t.2<1000000000∧t.1≤1000000000000000000 ∧
  aQ 13 = .ref 0 0 0 N N∧aQ 14=jI vs∧aQ 15=VI ((n+2:Nat):Int)∧aQ 17=VI i∧aQ 19=VI t.1∧aQ 20=VI t.2∧aQ 12=ρ 12∧aQ 16=ρ 16) (fun t=>1000000000-t.2) (g,left) ⟨rfl,hh,hq,hl,hgb,g13,g14,g15,g17,g19,g20,rfl,rfl⟩ ?_
 rintro⟨g,left⟩ tG H ⟨rfl,hh,hq,hl,hgb,Ck,Dh,NC,Il,k19,k20,KZ,k16⟩
 simp only at hh hq hl hgb k19 k20
 have f1:bK 1 (jI vs) (VI ((n+1:Nat):Int)) (H2 us os)=some (.cJ (tV v1) 0):=aI (f:=tV) (t := .op) (size:=1) (k := .i64) G.f1 rfl
 have f0:bK 1 (jI vs) (VI (n:Int)) (H2 us os)=some (.cJ (tV v0) 0):=aI (f:=tV) (t := .op) (size:=1) (k := .i64) G.f0 rfl
 have wn2:IntKind.i64.wrap (((n+2:Nat):Int)-2)=(n:Int):=wrapN _ (by omega) (by omega)
 have wn1:IntKind.i64.wrap (((n+2:Nat):Int)-1)=((n+1:Nat):Int):=wrapN _ (by omega) (by omega)
 have wi:IntKind.i64.wrap ((i:Int)+((n+2:Nat):Int))=((i+(n+2):Nat):Int):=wrapN _ (by omega) (by omega)
 have wi2:IntKind.i64.wrap (((i+(n+2):Nat):Int)-2)=((i+n:Nat):Int):=wrapN _ (by omega) (by omega)
 have e1:bK 1 (.ref 0 0 0 N N) (VI ((i+n:Nat):Int)) (H2 us os)=some (.ptr 0 0 (i+n) 0):=by rw[bB YD (by omega),aL9]
 have e2:bH false 1 (.ptr 0 0 (i+n) 0) (H2 us os)=some (VI (u0:Int)):=N3 YD hu0
 have wl:IntKind.i64.wrap ((left:Int)+(v1:Int))=((left+v1:Nat):Int):=wrapN _ (by omega) (by omega)
 have down:val 1000000000 jO / val 1000000000 vs<g→∃g',g=g'+1∧IntKind.i64.wrap ((g:Int)-1)=(g':Int)∧u2*1000000000+u1=g'*v1+(left+v1)∧val 1000000000 jO / val 1000000000 vs≤g':=by
  intro h
  have hg1:1≤g:=aM7 (aK5 _) h
  obtain⟨g',rfl⟩:∃g',g=g'+1:=⟨g-1,by omega⟩
  refine⟨g',rfl,wrapN _ (by omega) (by omega),?_,by omega⟩
  rw[hh,aK6]
  omega
 have hmu:∀g':Nat,left+v1<1000000000→1000000000-(g',left+v1).2<1000000000-(g,left).2:=fun g' h=>by
  show 1000000000-(left+v1)<1000000000-left
  omega
 have hle:∀g':Nat,g=g'+1→g'≤1000000000000000000:=fun g' h=>by
  omega
 have aDJ:left*1000000000+u0≤9223372036854775807:=aKC (x18 hl lu0) (by decide)
 have aEN:left*1000000000≤9223372036854775807:=x17 hl
 have ws:IntKind.i64.wrap ((left:Int)*1000000000)=((left*1000000000:Nat):Int):=Sa aEN
 have wa:IntKind.i64.wrap (((left*1000000000:Nat):Int)+(u0:Int))=((left*1000000000+u0:Nat):Int):=RS aDJ
 obtain⟨s13,s14,s15,s17⟩:tG 13=ρ 13∧tG 14=ρ 14∧tG 15=ρ 15∧tG 17=ρ 17:=⟨by rw[Ck,g13],by rw[Dh,g14],by rw[NC,g15],by rw[Il,g17]⟩
 by_cases hA:(1000000000:Int)≤(g:Int)
 ·have hA':=leT hA
  obtain⟨g',hg',wg,YT,OM⟩:=down (aKD qlt hA')
  by_cases hB:(1000000000:Int)≤((left+v1:Nat):Int)
  ·obtain⟨c1,c2⟩:=G.broken YT (leT hB)
   simp only[iH,Ck,Dh,NC,Il,k19,k20,hA,hB,f1,wn1,wg,wl,VX,Nat.reduceEqDiff,Nat.reduceAdd]
   exact hQ _ g' OM (G.aeY YT (aLi c1) c2) c1 rfl KZ s13 s14 s15 k16 s17
  ·simp only[iH,Ck,Dh,NC,Il,k19,k20,hA,hB,f1,wn1,wg,wl,VX,Nat.reduceEqDiff,Nat.reduceAdd]
   refine⟨(g',left+v1),hmu g' (ajT hB),YT,OM,ajT hB,hle g' hg',?_⟩
   exact⟨rfl,rfl,KZ,k16⟩
 ·have hA':=ajT hA
  have hgv:g*v0≤999999999*999999999:=aMU (Nat.le_of_lt_succ hA') (Nat.le_of_lt_succ lv0)
  have wm:IntKind.i64.wrap ((g:Int)*(v0:Int))=((g*v0:Nat):Int):=adO (aKC hgv (by decide))
  by_cases hT:((left*1000000000+u0:Nat):Int)<((g*v0:Nat):Int)
  ·obtain⟨g',hg',wg,YT,OM⟩:=down (G.too hh (ltC hT))
   by_cases hB:(1000000000:Int)≤((left+v1:Nat):Int)
   ·obtain⟨c1,c2⟩:=G.broken YT (leT hB)
    simp only[iH,Ck,Dh,NC,Il,k19,k20,hA,hB,hT,f1,f0,e1,e2,wn1,wn2,wi,wi2,ws,wa,wm,wg,wl,VX,Nat.reduceEqDiff,Nat.reduceAdd]
    exact hQ _ g' OM (G.aeY YT (aLi c1) c2) c1 rfl KZ s13 s14 s15 k16 s17
   ·simp only[iH,Ck,Dh,NC,Il,k19,k20,hA,hB,hT,f1,f0,e1,e2,wn1,wn2,wi,wi2,ws,wa,wm,wg,wl,VX,Nat.reduceEqDiff,Nat.reduceAdd]
    refine⟨(g',left+v1),hmu g' (ajT hB),YT,OM,ajT hB,hle g' hg',?_⟩
    exact⟨rfl,rfl,KZ,k16⟩
  ·simp only[iH,Ck,Dh,NC,Il,k19,k20,hA,hT,f0,e1,e2,wn2,wi,wi2,ws,wa,wm,VX,Nat.reduceEqDiff,Nat.reduceAdd]
   exact hQ _ g hq (G.aeY hh (aLi hA') (aD5 hT)) hA' k19 KZ s13 s14 s15 k16 s17
theorem R9 {Hk os0 vs:List Nat} {N m n v1 v0 A s:Nat} {ρ:cW} {Q:VQ} (hN:Hk.length=N) (hm:m+(n+2)=N) (Fm:N≤70368744177664) (MB:∀d∈Hk,d<1000000000) (HY:vs.length=n+2) (Ju:∀d∈vs,d<1000000000) (f1:vs[n+1]? = some v1) (f0:vs[n]? = some v0) (jZ:1≤v1)
  (hA:val 1000000000 Hk=A) (E0:val 1000000000 (Hk.drop m)<val 1000000000 vs) (iB:os0.length=m) (nK:∀d∈os0,d<1000000000)
  (g12:ρ 12=VI s) (g13:ρ 13 = .ref 0 0 0 N N) (g14:ρ 14=jI vs) (g15:ρ 15=VI ((n+2:Nat):Int)) (g16:ρ 16 = .ref 1 0 0 m m) (g17:ρ 17=VI ((m:Int)-1))
  (hQ:∀(aQ:cW) (us os:List Nat),aQ 12=VI s→aQ 13 = .ref 0 0 0 N N→aQ 16 = .ref 1 0 0 m m→us.length=N→(∀d∈us,d<1000000000)→os.length=m→(∀d∈os,d<1000000000)→val 1000000000 us+val 1000000000 vs*val 1000000000 os=A→val 1000000000 us<val 1000000000 vs→Q (.exit 0) aQ (H2 us os)) :
  VW ⟨true,false⟩ 0 (.loop kB) Q ρ (H2 Hk os0):=by
 have hVb:=sF Ju
 rw[HY] at hVb
 refine aP (fun(t:Nat×List Nat×List Nat) aQ H=>t.1≤m∧H=H2 t.2.1 t.2.2∧t.2.1.length=N∧(∀d∈t.2.1,d<1000000000)∧t.2.2.length=m∧(∀d∈t.2.2,d<1000000000)∧val 1000000000 (t.2.1.drop t.1)<val 1000000000 vs∧val 1000000000 t.2.1+1000000000^t.1*val 1000000000 vs*val 1000000000 (t.2.2.drop t.1)=A ∧
  aQ 12=VI s∧aQ 13 = .ref 0 0 0 N N∧aQ 14=jI vs∧aQ 15=VI ((n+2:Nat):Int)∧aQ 16 = .ref 1 0 0 m m∧aQ 17=VI ((t.1:Int)-1)) (fun t=>t.1) (m,Hk,os0) ⟨aKB _,rfl,hN,MB,iB,nK,E0,by rw[aMu (by simp only;omega)];simpa[val] using hA,g12,g13,g14,g15,g16,g17⟩ ?_
 rintro⟨j,us,os⟩ tG H ⟨hj,rfl,T0,MB,iB,nK,bI,hv,KZ,Ck,Dh,NC,k16,Il⟩
 simp only at hj T0 MB iB nK bI hv Il
 by_cases hz:(0:Int)≤(j:Int)-1
 ·obtain⟨i,rfl⟩:∃i,j=i+1:=⟨j-1,by omega⟩
  have Ed:((i+1:Nat):Int)-1=(i:Int):=by omega
  rw[Ed] at Il hz
  obtain⟨XK,Dn,Tv,hsW,aiM,amA,xQ⟩:=Yg (n:=n+2) T0 (by omega) MB hVb bI
  generalize acB:(us.drop i).take (n+2+1)=jO at *
  have Tk:∀d∈jO,d<1000000000:=fun d hd=>by rw[←acB] at hd;exact MB d (aLz (aLy hd))
  obtain⟨u2,hu2⟩:∃u2,us[i+(n+2)]? = some u2:=⟨_,aKI (by omega)⟩
  obtain⟨u1,hu1⟩:∃u1,us[i+(n+1)]? = some u1:=⟨_,aKI (by omega)⟩
  obtain⟨u0,hu0⟩:∃u0,us[i+n]? = some u0:=⟨_,aKI (by omega)⟩
  have G:As 1000000000 jO vs n u2 u1 u0 v1 v0:=⟨by decide,Tk,Ju,Tv,HY,by rw[xQ _ (by omega)];exact hu2,by rw[xQ _ (by omega)];exact hu1,by rw[xQ _ (by omega)];exact hu0,f1,f0,jZ,hsW⟩
  have lu2:=G.auA
  have lu1:=G.aiT
  have lv1:=G.Z8
  have qlt:=G.arA
  have KI:=G.KI
  have w1:IntKind.i64.wrap ((i:Int)+((n+2:Nat):Int))=((i+(n+2):Nat):Int):=wrapN _ (by omega) (by omega)
  have w2:IntKind.i64.wrap (((i+(n+2):Nat):Int)-1)=((i+(n+1):Nat):Int):=wrapN _ (by omega) (by omega)
  have wn1:IntKind.i64.wrap (((n+2:Nat):Int)-1)=((n+1:Nat):Int):=wrapN _ (by omega) (by omega)
  have ev1:bK 1 (jI vs) (VI ((n+1:Nat):Int)) (H2 us os)=some (.cJ (tV v1) 0):=aI (f:=tV) (t := .op) (size:=1) (k := .i64) f1 rfl
  have e2:bK 1 (.ref 0 0 0 N N) (VI ((i+(n+2):Nat):Int)) (H2 us os)=some (.ptr 0 0 (i+(n+2)) 0):=by rw[bB YD (by omega),aL9]
  have e1:bK 1 (.ref 0 0 0 N N) (VI ((i+(n+1):Nat):Int)) (H2 us os)=some (.ptr 0 0 (i+(n+1)) 0):=by rw[bB YD (by omega),aL9]
  have l2:bH false 1 (.ptr 0 0 (i+(n+2)) 0) (H2 us os)=some (VI (u2:Int)):=N3 YD hu2
  have l1:bH false 1 (.ptr 0 0 (i+(n+1)) 0) (H2 us os)=some (VI (u1:Int)):=N3 YD hu1
  have aDv:u2*1000000000+u1≤1000000000000000000:=x18 lu2 lu1
  have aDl:u2*1000000000≤9223372036854775807:=x17 lu2
  have aBn:u2*1000000000+u1≤9223372036854775807:=aKC aDv (by decide)
  have ws2:IntKind.i64.wrap ((u2:Int)*1000000000)=((u2*1000000000:Nat):Int):=Sa aDl
  have wa:IntKind.i64.wrap (((u2*1000000000:Nat):Int)+(u1:Int))=((u2*1000000000+u1:Nat):Int):=RS aBn
  have q1:=NR (u2*1000000000+u1) v1 aBn jZ
  have q2:=Oy (u2*1000000000+u1) v1 jZ
  simp only[kB,KZ,Ck,Dh,NC,k16,Il,hz,w1,w2,wn1,ev1,e1,e2,l1,l2,ws2,wa,q1,q2,VX,Nat.reduceEqDiff,Nat.reduceAdd]
  clear ws2 wa q1 q2 e1 e2 l1 l2 ev1 w1 w2 wn1
  have hh:=aMK (u2*1000000000+u1) v1
  have hml:=aK3 (u2*1000000000+u1) jZ
  have hdl:(u2*1000000000+u1) / v1≤u2*1000000000+u1:=aM8 _ _
  have T3:val 1000000000 jO / val 1000000000 vs≤(u2*1000000000+u1) / v1:=by
   have t1:=(Fw (n:=n+1) (xs:=jO) Tk (by omega) (by rw[xQ _ (by omega)];exact hu2) (by rw[xQ _ (by omega)];exact hu1)).2
   have t2:=(Cp (n:=n+1) Ju HY f1).1
   rw[aM9 jZ]
   have t3:val 1000000000 jO / val 1000000000 vs*(v1*1000000000^(n+1))≤val 1000000000 jO / val 1000000000 vs*val 1000000000 vs:=aMA _ t2
   have t4:=aNa (val 1000000000 jO) (val 1000000000 vs)
   have t5:val 1000000000 jO / val 1000000000 vs*v1*1000000000^(n+1)<(u2*1000000000+u1+1)*1000000000^(n+1):=by rw[aMR];omega
   have:=aMB t5
   omega
  generalize hQ1:(u2*1000000000+u1) / v1=g0 at *
  generalize hQ2:(u2*1000000000+u1) % v1=l0 at *
  refine WZ (i:=i) G T0 (by omega) Fm hu0 Ck Dh NC Il (by rfl) (by rfl) (by rw[aL3 g0];omega) T3 (by omega) (by omega) ?_
  intro vL g' hq OM hgW r19 r12 r13 r14 r15 r16 r17
  have Ul:vL 12=VI s:=r12.trans KZ
  have Vr:vL 13 = .ref 0 0 0 N N:=r13.trans Ck
  have UA:vL 14=jI vs:=r14.trans Dh
  have Vt:vL 15=VI ((n+2:Nat):Int):=r15.trans NC
  have asL:vL 16 = .ref 1 0 0 m m:=r16.trans k16
  have aqJ:vL 17=VI i:=r17.trans Il
  simp only[Ul,Vr,UA,Vt,asL,aqJ,r19,VX,Nat.reduceEqDiff,Nat.reduceAdd]
  have xG:g'*val 1000000000 vs≤val 1000000000 jO+val 1000000000 vs:=by
   have:=aK2 (val 1000000000 vs) OM
   rw[aK6,aNb] at this
   have:=aNa (val 1000000000 jO) (val 1000000000 vs)
   omega
  obtain⟨low,azK⟩:∃low,low=jO.take (n+2):=⟨_,rfl⟩
  have hll:low.length=n+2:=by rw[azK,aMa];omega
  have hld:∀d∈low,d<1000000000:=fun d hd=>Tk d (by rw[azK] at hd;exact aLy hd)
  have hsg:jO=low++[u2]:=by
   have h1:jO[n+2]? = some u2:=by rw[xQ _ (by omega)];exact hu2
   have h2:=aLK (n+2) jO
   have h3:=(aKA.1 h1)
   rw[List.drop_eq_getElem_cons h3.1,h3.2,aMu (by omega),←azK] at h2
   exact h2.symm
  have TZ:val 1000000000 jO=val 1000000000 low+1000000000^(n+2)*u2:=by rw[hsg,vY,hll]
  have lT:∀(lw:List Nat) (t:Nat),(us.take i).map tV++lw.map tV++VI (t:Int)::(us.drop (i+(n+2+1))).map tV=(us.take i++(lw++[t])++us.drop (i+(n+2+1))).map tV:=fun lw t=>by simp
  have Kp:aG (H2 us os) 0 0=some ((us.take i).map tV++low.map tV++VI (u2:Int)::(us.drop (i+(n+2+1))).map tV,1,true):=by
   rw[lT,←hsg,←XK]
   rfl
  refine gC rfl ((aeS (o:=i) (n:=n+2) Kp (aK5 _) (by simpa using Dn) hll HY (by omega) Fm hld Ju hgW lu2).mono ?_)
  rintro r H' ⟨Dc,c,rfl,Fo,hd',hc,hr,hE⟩
  have aGD:val 1000000000 low<1000000000^(n+2):=by have:=sF hld;rwa [hll] at this
  have aE1:val 1000000000 Dc<1000000000^(n+2):=by have:=sF hd';rwa [Fo] at this
  have rows:∀(lw:List Nat) (t q:Nat),lw.length=n+2→(∀d∈lw,d<1000000000)→t<1000000000→q=val 1000000000 jO / val 1000000000 vs→val 1000000000 lw+1000000000^(n+2)*t=val 1000000000 jO % val 1000000000 vs →
    ((us.take i++(lw++[t])++us.drop (i+(n+2+1))).length=N∧(∀d∈us.take i++(lw++[t])++us.drop (i+(n+2+1)),d<1000000000)∧val 1000000000 ((us.take i++(lw++[t])++us.drop (i+(n+2+1))).drop i)<val 1000000000 vs∧val 1000000000 (us.take i++(lw++[t])++us.drop (i+(n+2+1)))+1000000000^i*val 1000000000 vs*val 1000000000 ((os.set i q).drop i)=A):=by
   intro lw t q hlw aDk ht Xa hse
   have auI:val 1000000000 (lw++[t])=val 1000000000 jO % val 1000000000 vs:=by rw[vY,hlw];exact hse
   have aEL:(lw++[t]).length=n+3:=by rw[aKM,hlw];rfl
   have aFa:∀d∈lw++[t],d<1000000000:=fun d hd=>by
    rcases aLx.1 hd with h | h
    ·exact aDk d h
    ·rw[List.mem_singleton.1 h];exact ht
   generalize lw++[t]=uP at *
   have asE:=aK3 (val 1000000000 jO) KI
   have Y0:(us.take i++uP++us.drop (i+(n+2+1))).drop i=uP++us.drop (i+(n+2+1)):=by rw[aMn,List.drop_append,aMu (by omega),Dn];simp
   have YA:(us.take i++uP++us.drop (i+(n+2+1))).take i=us.take i:=by rw[aMn,aNc (by omega),aLu (by omega)]
   have Uj:val 1000000000 ((us.take i++uP++us.drop (i+(n+2+1))).drop i)=val 1000000000 uP:=by rw[Y0,BE,amA,aMH,aMI]
   refine⟨by rw[aKM,aKM,Dn,aEL,aM2];omega,fun d hd => ?_,by rw[Uj,auI];exact asE,?_⟩
   ·rw[aLx,aLx] at hd
    rcases hd with(hd | hd) | hd
    ·exact MB d (aLy hd)
    ·exact aFa d hd
    ·exact MB d (aLz hd)
   ·have h1:=aNd (val 1000000000 jO) (val 1000000000 vs)
    rw[←Xa,←auI,aL3] at h1
    have h2:=sP (b:=1000000000) us i
    have h3:=sP (b:=1000000000) (us.take i++uP++us.drop (i+(n+2+1))) i
    rw[YA,Dn,Uj] at h3
    rw[Dn,aiM] at h2
    rw[set_drop (by omega),vQ,h3]
    rw[h2,aL2] at hv
    exact OO h1.symm hv
  have e3:∀(IQ:List Nat) (d:Nat),bK 1 (.ref 1 0 0 m m) (VI i) (H2 IQ os)=some (.ptr 1 0 i 0)∧bL 0 1 (.ptr 1 0 i 0) (VI (d:Int)) (H2 IQ os)=some (H2 IQ (os.set i d)):=fun IQ d=>by
   refine⟨by rw[bB aCj (by omega),aL9],?_⟩
   rw[show VI (d:Int)=tV d from rfl,dQ (f:=tV) (e:=1) aCj (by omega) (aK5 _) rfl rfl]
   rfl
  have wi:IntKind.i64.wrap ((i:Int)-1)=(i:Int)-1:=wrap64 (by omega) (by omega)
  have hdm:=aNd (val 1000000000 jO) (val 1000000000 vs)
  have asE:=aK3 (val 1000000000 jO) KI
  generalize hPP:1000000000^(n+2)=P at *
  by_cases mI:(u2:Int)-(c:Int)<0
  ·
   rw[decide_eq_true mI] at hr
   subst hr
   have hgt:val 1000000000 jO<g'*val 1000000000 vs:=by
    have h1:P*(u2+1)≤P*c:=aMA _ (by omega)
    rw[aM0,Nat.mul_one] at h1
    omega
   have Xa:g'=val 1000000000 jO / val 1000000000 vs+1:=by
    rcases Nat.lt_or_ge (val 1000000000 jO / val 1000000000 vs) g' with h | h
    ·omega
    ·have h1:g'*val 1000000000 vs≤val 1000000000 jO / val 1000000000 vs*val 1000000000 vs:=aK2 _ h
     have:=aNa (val 1000000000 jO) (val 1000000000 vs)
     omega
   have hg1:1≤g':=by rw[Xa];exact Nat.le_add_left 1 _
   have wg:IntKind.i64.wrap ((g':Int)-1)=((g'-1:Nat):Int):=wrapN _ (by omega) (by omega)
   simp only[Ul,Vr,UA,Vt,asL,aqJ,r19,wg,VX,Nat.reduceEqDiff,Nat.reduceAdd]
   have T4:aG ((H2 us os).set 0 (.row 0 ((us.take i).map tV++Dc.map tV++VI ((u2:Int)-(c:Int))::(us.drop (i+(n+2+1))).map tV) 1 true)) 0 0=some ((us.take i).map tV++Dc.map tV++VI ((u2:Int)-(c:Int))::(us.drop (i+(n+2+1))).map tV,1,true):=rfl
   refine gC rfl ((afA (o:=i) (n:=n+2) T4 (aK5 _) (by simpa using Dn) Fo HY (by omega) Fm hd' Ju (by omega) (by omega)).mono ?_)
   rintro r H' ⟨YJ,c2,rfl,JN,hd2,hc2,hE2⟩
   rw[hPP] at hE2
   have axQ:val 1000000000 YJ<P:=by have:=sF hd2;rwa [JN,hPP] at this
   obtain⟨hy,hZ⟩:(u2:Int)-(c:Int)+(c2:Int)=0∧val 1000000000 YJ=val 1000000000 jO % val 1000000000 vs:=by
    refine atQ (P:=P) ?_ axQ (by omega)
    have i1:(P:Int)*((u2:Int)-(c:Int)+(c2:Int))=(P:Int)*u2-(P:Int)*c+(P:Int)*c2:=by rw[Int.mul_add,Int.mul_sub]
    have i2:((P*u2:Nat):Int)=(P:Int)*u2:=by simp
    have i3:((P*c:Nat):Int)=(P:Int)*c:=by simp
    have i4:((P*c2:Nat):Int)=(P:Int)*c2:=by simp
    rw[i1,←i2,←i3,←i4]
    have i5:g'*val 1000000000 vs=val 1000000000 vs*(val 1000000000 jO / val 1000000000 vs)+val 1000000000 vs:=by rw[Xa,aK6,aNb,aL3 (val 1000000000 vs)]
    omega
   have Lb:((H2 us os).set 0 (.row 0 ((us.take i).map tV++Dc.map tV++VI ((u2:Int)-(c:Int))::(us.drop (i+(n+2+1))).map tV) 1 true)).set 0 (.row 0 ((us.take i).map tV++YJ.map tV++VI ((u2:Int)-(c:Int)+(c2:Int))::(us.drop (i+(n+2+1))).map tV) 1 true)=H2 (us.take i++(YJ++[0])++us.drop (i+(n+2+1))) os:=by
    rw[hy]
    rw[show (0:Int)=((0:Nat):Int) from rfl,lT]
    rfl
   rw[Lb]
   obtain⟨x1,x2⟩:=e3 (us.take i++(YJ++[0])++us.drop (i+(n+2+1))) (g'-1)
   obtain⟨y1,y2,y3,y4⟩:=rows YJ 0 (g'-1) JN hd2 (by decide) (by rw[Xa,Nat.add_sub_cancel]) (by rw[aMH,aMI];exact hZ)
   simp only[Ul,Vr,UA,Vt,asL,aqJ,x1,x2,wi,VX,Nat.reduceEqDiff,Nat.reduceAdd]
   refine⟨(i,us.take i++(YJ++[0])++us.drop (i+(n+2+1)),os.set i (g'-1)),by simp only;omega,by omega,rfl,y1,y2,by rw[aMz];exact iB,nW nK (by omega),y3,y4,?_⟩
   try (repeat' apply aMh)<;>first | rfl | trivial
  ·rw[decide_eq_false mI] at hr
   subst hr
   obtain⟨t',ht'⟩:∃t':Nat,(u2:Int)-(c:Int)=(t':Int):=⟨u2-c,by omega⟩
   have hP1:P*u2=P*c+P*t':=by rw[←aM0];congr 1;omega
   have Hl:g'*val 1000000000 vs≤val 1000000000 jO:=by omega
   have Xa:g'=val 1000000000 jO / val 1000000000 vs:=by
    have:=(aM9 KI).2 Hl
    omega
   have Lb:(H2 us os).set 0 (.row 0 ((us.take i).map tV++Dc.map tV++VI ((u2:Int)-(c:Int))::(us.drop (i+(n+2+1))).map tV) 1 true)=H2 (us.take i++(Dc++[t'])++us.drop (i+(n+2+1))) os:=by
    rw[ht',lT]
    rfl
   rw[Lb]
   obtain⟨x1,x2⟩:=e3 (us.take i++(Dc++[t'])++us.drop (i+(n+2+1))) g'
   have hse:val 1000000000 Dc+P*t'=val 1000000000 jO % val 1000000000 vs:=by
    rw[←Xa,aL3] at hdm
    omega
   obtain⟨y1,y2,y3,y4⟩:=rows Dc t' g' Fo hd' (by omega) Xa hse
   simp only[Ul,Vr,UA,Vt,asL,aqJ,r19,x1,x2,wi,VX,Nat.reduceEqDiff,Nat.reduceAdd]
   refine⟨(i,us.take i++(Dc++[t'])++us.drop (i+(n+2+1)),os.set i g'),by simp only;omega,by omega,rfl,y1,y2,by rw[aMz];exact iB,nW nK (by omega),y3,y4,?_⟩
   try (repeat' apply aMh)<;>first | rfl | trivial
 ·have Xk:j=0:=by omega
  subst Xk
  rw[Nat.pow_zero,aNb,aLN] at hv
  rw[aLN] at bI
  simp only[kB,KZ,Ck,Dh,NC,k16,Il,hz,VX,Nat.reduceEqDiff,Nat.reduceAdd]
  exact hQ _ us os KZ Ck k16 T0 MB iB nK hv bI
end Go.PM
namespace Go.PM
def bl (n:Nat):Nat:=(aD 2 n).length
theorem HR (n:Nat):n<2^bl n:=iP (by decide) n
theorem zO {n k:Nat} (h:n<2^k):bl n≤k:=oM (by decide) h
theorem mA {m n:Nat} (h:m≤n):bl m≤bl n:=fB (by decide) h
theorem oD (m n:Nat):bl (m*n)≤bl m+bl n:=by
 refine zO ?_
 rw[Nat.pow_add]
 exact Nat.mul_lt_mul'' (HR m) (HR n)
theorem I2 {n k:Nat} (h:bl n≤k):n<2^k:=aKD (HR n) (aME (by decide) h)
theorem YG {m n k:Nat} (hm:bl m≤k) (hn:bl n≤k):bl (m+n)≤k+1:=by
 refine zO ?_
 have h1:=I2 hm
 have h2:=I2 hn
 rw[aL2]
 omega
theorem abB:bl 0=0:=by simp[bl,cE]
theorem La:bl 1=1:=by simp[bl,kW (b:=2) (by decide) (n:=1) (by decide),cE]
theorem ajC {n:Nat} (h:n≠0):1≤bl n:=by
 have:=mA (m:=1) (n:=n) (by omega)
 rwa [La] at this
theorem avJ (n:Nat):32*(aD 4294967296 n).length≤bl n+31:=by
 by_cases h:n=0
 ·subst h;rw[cE];simp
 ·have h1:=NH (b:=4294967296) (by decide) h
  have h2:=HR n
  have e:(4294967296:Nat)=2^32:=by decide
  rw[e] at h1 ⊢
  rw[←Nat.pow_mul] at h1
  have h3:2^(32*((aD (2^32) n).length-1))<2^bl n:=by omega
  have h4:=(aM5 (by decide)).1 h3
  omega
theorem avP (n:Nat):29*(aD 1000000000 n).length≤bl n+28:=by
 by_cases h:n=0
 ·subst h;rw[cE];simp
 ·have h1:=NH (b:=1000000000) (by decide) h
  have h2:=HR n
  have h5:(2^29)^((aD 1000000000 n).length-1)≤1000000000^((aD 1000000000 n).length-1):=Nat.pow_le_pow_left (by decide) _
  rw[←Nat.pow_mul] at h5
  have h3:2^(29*((aD 1000000000 n).length-1))<2^bl n:=by omega
  have h4:=(aM5 (by decide)).1 h3
  omega
def aK (q:Rat):Nat:=max (bl q.num.natAbs) (bl q.den)
theorem pY {q:Rat}:bl q.num.natAbs≤aK q:=Nat.le_max_left _ _
theorem oE {q:Rat}:bl q.den≤aK q:=Nat.le_max_right _ _
theorem R3 {q:Rat}:1≤aK q:=aKC (ajC q.den_nz) oE
theorem OU {q:Rat} {k:Nat} (h1:bl q.num.natAbs≤k) (h2:bl q.den≤k):aK q≤k:=Nat.max_le.2 ⟨h1,h2⟩
theorem DD {n:Int} {d k:Nat} (h1:bl n.natAbs≤k) (h2:bl d≤k) (hk:1≤k):aK (mkRat n d)≤k:=by
 refine OU ?_ ?_
 ·rw[Rat.num_mkRat]
  split
  ·rw[Int.natAbs_zero,abB];omega
  ·exact aKC (mA (Int.natAbs_ediv_le_natAbs _ _)) h1
 ·rw[Rat.den_mkRat]
  split
  ·rw[La];exact hk
  ·exact aKC (mA (aM8 _ _)) h2
theorem vE (a b:Rat):aK (a+b)≤aK a+aK b+1:=by
 rw[Rat.add_def']
 have h1 := @pY a
 have h2 := @pY b
 have h3 := @oE a
 have h4 := @oE b
 have h5:=oD a.num.natAbs b.den
 have h6:=oD b.num.natAbs a.den
 have h7:=oD a.den b.den
 refine DD ?_ (by omega) (by omega)
 have h8:(a.num*b.den+b.num*a.den).natAbs≤a.num.natAbs*b.den+b.num.natAbs*a.den:=by
  refine aKC (Int.natAbs_add_le _ _) ?_
  rw[aNf,aNf,aNg,aNg]
  exact aKB _
 exact aKC (mA h8) (YG (by omega) (by omega))
theorem gB (a b:Rat):aK (a*b)≤aK a+aK b:=by
 rw[Rat.mul_def']
 have h1 := @pY a
 have h2 := @pY b
 have h3 := @oE a
 have h4 := @oE b
 have h5:=oD a.num.natAbs b.num.natAbs
 have h7:=oD a.den b.den
 have h8 := @R3 a
 refine DD ?_ (by omega) (by omega)
 rw[aNf]
 omega
theorem G5 (a:Rat):aK (-a)=aK a:=by simp[aK]
theorem GK (a b:Rat):aK (a-b)≤aK a+aK b+1:=by
 rw[Rat.sub_eq_add_neg]
 have:=vE a (-b)
 rwa [G5] at this
theorem Q6 (a:Rat):aK a⁻¹≤aK a:=by
 have h1 := @pY a
 have h2 := @oE a
 refine OU ?_ ?_
 ·rw[Rat.num_inv,aNf,aNg]
  refine aKC (mA ?_) h2
  have h3:a.num.sign.natAbs≤1:=by
   rcases Int.lt_trichotomy a.num 0 with h | h | h
   ·rw[Int.sign_eq_neg_one_of_neg h];decide
   ·rw[h];decide
   ·rw[Int.sign_eq_one_of_pos h];decide
  have:=aK2 a.den h3
  omega
 ·rw[Rat.den_inv]
  split
  ·rw[La];exact R3
  ·exact h1
theorem Dy (a b:Rat):aK (a / b)≤aK a+aK b:=by
 rw[Rat.div_def]
 have:=gB a b⁻¹
 have:=Q6 b
 omega
theorem G4 (n:Int):aK (n:Rat)≤max (bl n.natAbs) 1:=by
 refine OU ?_ ?_
 ·rw[Rat.num_intCast];exact Nat.le_max_left _ _
 ·rw[Rat.den_intCast,La];exact Nat.le_max_right _ _
theorem rZ:aK 0=1:=by simp[aK,abB,La]
theorem AQ:aK 1=1:=by simp[aK,La]
theorem Ll (a:Rat):∀n:Nat,aK (a^n)≤n*aK a+1
 | 0=>by rw[Rat.pow_zero,AQ];omega
 |
  n+1=>by
  rw[Rat.pow_succ]
  have h1:=gB (a^n) a
  have h2:=Ll a n
  rw[aK6]
  omega
def mH (neg:Bool) (t:Nat):Int:=if neg then -(t:Int) else t
theorem qK (neg:Bool) (t:Nat):(mH neg t).natAbs=t:=by cases neg<;>simp[mH]
theorem Tu {neg:Bool} {t:Nat}:mH neg t<0↔neg=true∧t≠0:=by cases neg<;>simp[mH]<;>omega
theorem Bk (neg:Bool):mH neg 0=0:=by cases neg<;>rfl
theorem JI (z:Int):mH (decide (z<0)) z.natAbs=z:=by
 by_cases h:z<0<;>simp[mH,h]<;>omega
theorem asT {neg:Bool} {t g:Nat}:(mH neg t) / (g:Int)=mH neg (t / g)∨¬g ∣ t:=by
 by_cases h:g ∣ t
 ·left
  obtain⟨k,rfl⟩:=h
  by_cases hg:g=0
  ·subst hg;simp[Bk]
  ·rw[Nat.mul_div_cancel_left _ (by omega)]
   cases neg
   ·simp only[mH]
    simp only[aLd,if_false]
    rw[aM1,aNh _ (by omega)]
   ·simp only[mH,if_true]
    rw[aM1,←Int.mul_neg,aNh _ (by omega)]
 ·exact .inr h
theorem Ik {neg:Bool} {t b:Nat} (hb:b≠0):(mkRat (mH neg t) b).num=mH neg (t / Nat.gcd t b):=by
 rw[Rat.num_mkRat,if_neg hb,qK,Nat.gcd_comm]
 rcases asT (neg:=neg) (t:=t) (g:=Nat.gcd t b) with h | h
 ·exact h
 ·exact absurd (Nat.gcd_dvd_left _ _) h
theorem TJ {neg:Bool} {t b:Nat} (hb:b≠0):(mkRat (mH neg t) b).den=b / Nat.gcd t b:=by
 rw[Rat.den_mkRat,if_neg hb,qK,Nat.gcd_comm]
theorem NY (q:Rat):mkRat (mH (decide (q.num<0)) q.num.natAbs) q.den=q:=by rw[JI,Rat.mkRat_self]
end Go.PM