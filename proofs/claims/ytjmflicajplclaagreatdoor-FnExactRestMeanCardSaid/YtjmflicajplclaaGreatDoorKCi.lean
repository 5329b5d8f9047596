/- Texts of a claim, in one: part 9. -/
import Derived.Test.YtjmflicajplclaaGreatDoorKCh
open And renaming intro → aMd
open Bool renaming false_eq_true → aK9
open Int renaming mul_ediv_cancel_left → aNd,mul_le_mul_of_nonneg_left → aNa,natAbs_mul → aNb,natAbs_natCast → aNc,natCast_add → aMI,natCast_mul → aMX
open List renaming append_assoc → aMj,drop_drop → aLx,drop_of_length_le → aMq,drop_zero → aLJ,getElem?_drop → aKv,getElem?_eq_getElem → aKE,getElem?_eq_none_iff → aMO,getElem?_eq_some_iff → aKw,getElem?_set_ne → aKW,getElem?_set_self → aKV,getElem?_take_of_lt → aKU,length_append → aKI,length_drop → aMY,length_set → aMv,length_take → aL6,mem_append → aLt,mem_of_getElem? → aLr,mem_of_mem_drop → aLv,mem_of_mem_take → aLu,replicate → aLn,take_append_drop → aLG,take_append_of_le_length → aM8,take_of_length_le → aLq
open Nat renaming add_mul → aK2,add_mul_div_left → aMZ,add_mul_mod_self_left → aM0,add_zero → aME,div_add_mod → aM9,div_div_eq_div_mul → aMK,div_eq_of_lt → aL4,div_le_self → aM4,div_mul_le_self → aM6,le_div_iff_mul_le → aM5,le_of_ble_eq_true → aMl,le_of_lt → aLe,le_refl → aKx,le_trans → aKy,lt_of_le_of_lt → aM3,lt_of_lt_of_le → aKz,lt_of_mul_lt_mul_right → aMx,mod_add_div → aMG,mod_eq_of_lt → aL1,mod_lt → aKZ,mul_add → aMW,mul_assoc → aMN,mul_comm → aLZ,mul_le_mul → aMQ,mul_le_mul_left → aMw,mul_le_mul_right → aKY,mul_lt_mul_of_pos_right → aM2,mul_zero → aMD,one_mul → aM7,pow_le_pow_right → aMA,pow_lt_pow_iff_right → aM1,pow_succ → aLY,zero_add → aL5,zero_le → aK1
set_option linter.unusedSimpArgs false
set_option linter.unusedVariables false
namespace Go.PM
theorem Sk {H:aA} {b b' g:Nat} {x:fN} (h:b≠b'):aG (H.set b x) b' g=aG H b' g:=by
 unfold aG
 rw[aKW h]
theorem pX {H:aA} {b g e:Nat} {es oQ:List VV} {w w':Bool} (h:aG H b g=some (es,e,w)):aG (H.set b (.row g oQ e w')) b g=some (oQ,e,w'):=by
 have bH:b<H.length:=by
  unfold aG at h
  split at h
  ·rename_i hb
   exact(aKw.1 hb).1
  ·cases h
 unfold aG
 rw[aKV bH]
 simp
theorem oL {H:aA} {b:Nat} {x y:fN}:(H.set b x).set b y=H.set b y:=by rw[List.set_set]
theorem Aw {H:aA} {b g e:Nat} {es:List VV} {w:Bool} (h:aG H b g=some (es,e,w)):H.set b (.row g es e w)=H:=by
 apply List.ext_getElem?
 intro i
 by_cases hi:b=i
 ·subst hi
  unfold aG at h
  split at h
  ·rename_i hb
   split at h
   ·rename_i hg
    cases h
    rw[aKV (aKw.1 hb).1,hb,hg]
   ·cases h
  ·cases h
 ·rw[aKW hi]
theorem alS {H:aA} {b g o i lo d:Nat} {pre jK post:List Nat} (hr:aG H b g=some ((pre++jK++post).map uV,1,true)) (ho:pre.length=o) (hi:i<jK.length) (dR:lo≤b) :
  bL lo 1 (.ptr b g (o+i) 0) (uV d) H=some (H.set b (.row g ((pre++jK.set i d++post).map uV) 1 true)):=by
 rw[dQ (f:=uV) (e:=1) hr (by simp only[aKI];omega) dR rfl rfl,Z9 ho hi]
theorem Ys {H:aA} {lo b g o L c b2 g2 n2 c2 t:Nat} {pre jK post vs Q6:List Nat} {w2:Bool} (hr:aG H b g=some ((pre++jK++post).map uV,1,true)) (hr2:aG H b2 g2=some (Q6.map uV,1,w2)) (hb:b≠b2) (dR:lo≤b)
  (ho:pre.length=o) (hL:jK.length=L) (aGv:L≤70368744177664) (TX:Q6.take n2=vs) (hn2:n2≤Q6.length) (hle:n2≤L) (acX:∀d∈jK,d<4294967296) (I2:∀d∈vs,d<4294967296) (ht:t<4294967296) (xB:t*val 4294967296 vs≤val 4294967296 jK+val 4294967296 vs) :
  jE 200 [.ref b g o L c,.ref b2 g2 0 n2 c2,VK .u64 t] lo H fun r H'=>∃uQ:List Nat,H'=H.set b (.row g ((pre++uQ++post).map uV) 1 true)∧uQ.length=L∧(∀d∈uQ,d<4294967296) ∧
   ((r=VB false∧val 4294967296 uQ+t*val 4294967296 vs=val 4294967296 jK)∨(r=VB true∧val 4294967296 jK<t*val 4294967296 vs∧val 4294967296 uQ+t*val 4294967296 vs=val 4294967296 jK+val 4294967296 vs)):=by
 refine jE.walk ⟨true,false⟩ M0 (aMl rfl) ?_
 have HC:vs.length=n2:=by rw[←TX,aL6];omega
 have yR:∀i,i<n2→Q6[i]? = vs[i]? := fun i hi=>by rw[←TX,aKU hi]
 have SO:=rO acX
 have Qf:=rO I2
 rw[hL] at SO
 rw[HC] at Qf
 have hVL:val 4294967296 vs≤4294967296^L:=aKy (aLe Qf) (aMA (by decide) hle)
 have e0:∀ {K:aA} {es:List VV},aG K b g=some (es,1,true)→rW (.ref b g o L c) K=some (VI L):=fun h=>eH h
 have e00:∀ {K:aA},aG K b2 g2=some (Q6.map uV,1,w2)→rW (.ref b2 g2 0 n2 c2) K=some (VI n2):=fun h=>eH h
 have rd:∀(s:List Nat),s.length=L→aG (H.set b (.row g ((pre++s++post).map uV) 1 true)) b g=some ((pre++s++post).map uV,1,true):=fun s _=>pX hr
 have rd2:∀(s:List Nat),aG (H.set b (.row g ((pre++s++post).map uV) 1 true)) b2 g2=some (Q6.map uV,1,w2):=fun s=>by rw[Sk hb];exact hr2
 have wi:∀i:Nat,i<L→IntKind.i64.wrap ((i:Int)+1)=((i+1:Nat):Int):=fun i hi=>wrapN (i+1) (by omega) (by omega)
 have back:∀(ρ:cV) (s:List Nat),s.length=L→(∀d∈s,d<4294967296)→(∀s2:List Nat,s2.length=L→(∀d∈s2,d<4294967296)→∀c,val 4294967296 s+val 4294967296 vs=val 4294967296 s2+4294967296^L*c→val 4294967296 s2+t*val 4294967296 vs=val 4294967296 jK+val 4294967296 vs)→val 4294967296 jK<t*val 4294967296 vs→ρ 0 = .ref b g o L c→ρ 1 = .ref b2 g2 0 n2 c2→ρ 7=VK .u64 0→ρ 58=VI L→ρ 59=VI 0 →
   VW ⟨true,false⟩ lo (.loop nZ) (tI 2 (pP (VW ⟨true,false⟩ lo (.seq (.cT [⟨(some 6),(.mv (.const (.bool true))),none,false,[]⟩]) .ret) (CW [.tmp 6] fun r H'=>∃uQ:List Nat,H'=H.set b (.row g ((pre++uQ++post).map uV) 1 true)∧uQ.length=L∧(∀d∈uQ,d<4294967296)∧((r=VB false∧val 4294967296 uQ+t*val 4294967296 vs=val 4294967296 jK)∨(r=VB true∧val 4294967296 jK<t*val 4294967296 vs∧val 4294967296 uQ+t*val 4294967296 vs=val 4294967296 jK+val 4294967296 vs)))) (CW [.tmp 6] fun r H'=>∃uQ:List Nat,H'=H.set b (.row g ((pre++uQ++post).map uV) 1 true)∧uQ.length=L∧(∀d∈uQ,d<4294967296)∧((r=VB false∧val 4294967296 uQ+t*val 4294967296 vs=val 4294967296 jK)∨(r=VB true∧val 4294967296 jK<t*val 4294967296 vs∧val 4294967296 uQ+t*val 4294967296 vs=val 4294967296 jK+val 4294967296 vs))))) ρ (H.set b (.row g ((pre++s++post).map uV) 1 true)):=by
  intro ρ s hs SF Pt atQ g0 g1 g7 g58 g59
  refine aP (fun(u:Nat×List Nat×Nat) ρ K=>u.1≤L∧K=H.set b (.row g ((pre++u.2.1++post).map uV) 1 true)∧u.2.1.length=L∧(∀d∈u.2.1,d<4294967296)∧u.2.2≤1∧val 4294967296 (s.take u.1)+val 4294967296 (vs.take u.1)=val 4294967296 (u.2.1.take u.1)+4294967296^u.1*u.2.2∧(∀j,u.1≤j→u.2.1[j]? = s[j]?) ∧
   ρ 0 = .ref b g o L c∧ρ 1 = .ref b2 g2 0 n2 c2∧ρ 7=VK .u64 u.2.2∧ρ 58=VI L∧ρ 59=VI u.1) (fun u=>L-u.1) (0,s,0) ⟨aK1 _,rfl,hs,SF,by simp,by simp[val],fun _ _=>rfl,g0,g1,g7,g58,g59⟩ ?_
  rintro⟨i,outs,cy⟩ tC K ⟨hi,rfl,hJ,nJ,hc,hv,IT,k0,k1,k7,k58,k59⟩
  simp only at hi hJ nJ hc hv IT k7 k59
  by_cases bW:(i:Int)<(L:Int)
  ·obtain⟨x,hx⟩:∃x,outs[i]? = some x:=⟨_,aKE (by omega)⟩
   have lx:=nJ x (aLr hx)
   have JK:s[i]? = some x:=by rw[←IT i (aKx _)];exact hx
   have e1:bJ 1 (.ref b g o L c) (VI i) (H.set b (.row g ((pre++outs++post).map uV) 1 true))=some (.ptr b g (o+i) 0):=bB (rd outs hJ) (by omega)
   have e2:bF false 1 (.ptr b g (o+i) 0) (H.set b (.row g ((pre++outs++post).map uV) 1 true))=some (uV x):=kB (rd outs hJ) (by rw[S3 ho (by omega)];exact hx)
   have e3:∀d:Nat,bL lo 1 (.ptr b g (o+i) 0) (uV d) (H.set b (.row g ((pre++outs++post).map uV) 1 true))=some (H.set b (.row g ((pre++outs.set i d++post).map uV) 1 true)):=fun d=>by
    rw[alS (rd outs hJ) ho (by omega) dR,oL]
   have e4:=e00 (rd2 outs)
   have w1:IntKind.u64.wrap (x:Int)=(x:Int):=eR _ (by omega)
   have w2:IntKind.u64.wrap ((cy:Int)+(x:Int))=((cy+x:Nat):Int):=by rw[←aMI];exact eR _ (by omega)
   have wii:=wi i (by omega)
   have step:∀y,y<4294967296→(∀d,vs[i]? = some d→d=y)→(vs.length≤i→y=0) →
     (i+1≤L∧(outs.set i ((cy+x+y) % 4294967296)).length=L∧(∀d∈outs.set i ((cy+x+y) % 4294967296),d<4294967296)∧(cy+x+y) / 4294967296≤1∧val 4294967296 (s.take (i+1))+val 4294967296 (vs.take (i+1))=val 4294967296 ((outs.set i ((cy+x+y) % 4294967296)).take (i+1))+4294967296^(i+1)*((cy+x+y) / 4294967296))∧∀j,i+1≤j→(outs.set i ((cy+x+y) % 4294967296))[j]? = s[j]? := by
    intro y hy h1 h2
    refine⟨⟨by omega,by rw[aMv];exact hJ,nW nJ (aKZ _ (by decide)),by omega,?_⟩,fun j hj=>by rw[aKW (by omega)];exact IT j (by omega)⟩
    have hy':val 4294967296 (vs.take (i+1))=val 4294967296 (vs.take i)+4294967296^i*y:=by
     cases XH:vs[i]? with
     | some d=>rw[bE XH,h1 d XH]
     |
      none =>
      have hle:=aMO.1 XH
      rw[h2 hle,lD hle,lD (by omega),aMD,aME]
    rw[bE JK,hy',fK (by omega),aLY]
    exact Is hv rfl (aMG _ _)
   by_cases bH:(i:Int)<(n2:Int)
   ·obtain⟨y,hy⟩:∃y,vs[i]? = some y:=⟨_,aKE (by omega)⟩
    have ly:=I2 y (aLr hy)
    have f1:bJ 1 (.ref b2 g2 0 n2 c2) (VI i) (H.set b (.row g ((pre++outs++post).map uV) 1 true))=some (.ptr b2 g2 i 0):=by rw[bB (rd2 outs) (by omega),aL5]
    have f2:bF false 1 (.ptr b2 g2 i 0) (H.set b (.row g ((pre++outs++post).map uV) 1 true))=some (uV y):=kB (rd2 outs) (by rw[yR i (by omega)];exact hy)
    have w3:IntKind.u64.wrap (y:Int)=(y:Int):=eR _ (by omega)
    have w4:IntKind.u64.wrap (((cy+x:Nat):Int)+(y:Int))=((cy+x+y:Nat):Int):=by rw[←aMI];exact eR _ (by omega)
    obtain⟨⟨s1,s2,s3,s4,s5⟩,s6⟩:=step y ly (fun d hd=>by rw[hy] at hd;injection hd with hd;exact hd.symm) (fun h=>by omega)
    simp only[nZ,k0,k1,k7,k58,k59,bW,bH,e1,e2,e3,e4,f1,f2,w1,w2,w3,w4,wii,wrap32,qQ,VX,Nat.reduceEqDiff,Nat.reduceAdd]
    exact⟨(i+1,outs.set i ((cy+x+y) % 4294967296),(cy+x+y) / 4294967296),by simp only;omega,s1,rfl,s2,s3,s4,s5,s6,by (repeat' apply aMd)<;>first | rfl | trivial⟩
   ·obtain⟨⟨s1,s2,s3,s4,s5⟩,s6⟩:=step 0 (by decide) (fun d hd=>by have:=(aKw.1 hd).1;omega) (fun _=>rfl)
    simp only[aME] at s2 s3 s4 s5 s6
    simp only[nZ,k0,k1,k7,k58,k59,bW,bH,e1,e2,e3,e4,w1,w2,wii,wrap32,qQ,VX,Nat.reduceEqDiff,Nat.reduceAdd]
    exact⟨(i+1,outs.set i ((cy+x) % 4294967296),(cy+x) / 4294967296),by simp only;omega,s1,rfl,s2,s3,s4,s5,s6,by (repeat' apply aMd)<;>first | rfl | trivial⟩
  ·have mI:i=L:=by omega
   subst mI
   rw[aLq (by omega),aLq (by omega),aLq (by omega)] at hv
   simp only[nZ,k0,k1,k7,k58,k59,bW,VX,Nat.reduceEqDiff,Nat.reduceAdd]
   exact⟨outs,rfl,hJ,nJ,.inr ⟨atQ,Pt outs hJ nJ cy hv⟩⟩
 simp only[Ht,EW,e0 hr,VX,Nat.reduceEqDiff,Nat.reduceAdd]
 refine aP (fun(u:Nat×List Nat×Nat×Nat) ρ K=>u.1≤L∧K=H.set b (.row g ((pre++u.2.1++post).map uV) 1 true)∧u.2.1.length=L∧(∀d∈u.2.1,d<4294967296)∧u.2.2.1<4294967296∧u.2.2.2≤1∧val 4294967296 (jK.take u.1)+4294967296^u.1*(u.2.2.1+u.2.2.2)=val 4294967296 (u.2.1.take u.1)+t*val 4294967296 (vs.take u.1)∧(∀j,u.1≤j→u.2.1[j]? = jK[j]?) ∧
  ρ 0 = .ref b g o L c∧ρ 1 = .ref b2 g2 0 n2 c2∧ρ 2=VK .u64 t∧ρ 7=VK .u64 u.2.2.1∧ρ 8=VI u.2.2.2∧ρ 13=VI L∧ρ 14=VI u.1) (fun u=>L-u.1) (0,jK,0,0) ⟨aK1 _,(Aw hr).symm,hL,acX,by simp,by simp,by simp[val],fun _ _=>rfl,by (repeat' apply aMd)<;>first | rfl | trivial⟩ ?_
 rintro⟨i,outs,cy,l⟩ ρ K ⟨hi,rfl,hJ,nJ,hc,CQ,hv,IT,k0,k1,k2,k7,k8,Ce,CS⟩
 simp only at hi hJ nJ hc CQ hv IT k7 k8 CS
 by_cases bW:(i:Int)<(L:Int)
 ·obtain⟨x,hx⟩:∃x,outs[i]? = some x:=⟨_,aKE (by omega)⟩
  have lx:=nJ x (aLr hx)
  have JK:jK[i]? = some x:=by rw[←IT i (aKx _)];exact hx
  have e1:bJ 1 (.ref b g o L c) (VI i) (H.set b (.row g ((pre++outs++post).map uV) 1 true))=some (.ptr b g (o+i) 0):=bB (rd outs hJ) (by omega)
  have e2:bF false 1 (.ptr b g (o+i) 0) (H.set b (.row g ((pre++outs++post).map uV) 1 true))=some (uV x):=kB (rd outs hJ) (by rw[S3 ho (by omega)];exact hx)
  have e3:∀d:Nat,bL lo 1 (.ptr b g (o+i) 0) (uV d) (H.set b (.row g ((pre++outs++post).map uV) 1 true))=some (H.set b (.row g ((pre++outs.set i d++post).map uV) 1 true)):=fun d=>by
   rw[alS (rd outs hJ) ho (by omega) dR,oL]
  have e4:=e00 (rd2 outs)
  have wii:=wi i (by omega)
  have w1:IntKind.i64.wrap (x:Int)=(x:Int):=wrapN x rfl (by omega)
  have step:∀y c1,y<4294967296→c1=cy+t*y→(∀d,vs[i]? = some d→d=y)→(vs.length≤i→y=0) →
    c1 / 4294967296<4294967296∧IntKind.i64.wrap ((x:Int)-((c1 % 4294967296:Nat):Int)-(l:Int))=(x:Int)-((c1 % 4294967296:Nat):Int)-(l:Int)∧IntKind.i64.wrap ((x:Int)-((c1 % 4294967296:Nat):Int))=(x:Int)-((c1 % 4294967296:Nat):Int) ∧
    ∃r l',l'≤1∧((x:Int)-((c1 % 4294967296:Nat):Int)-(l:Int)<0↔l'=1)∧IntKind.u32.wrap ((x:Int)-((c1 % 4294967296:Nat):Int)-(l:Int))=((r:Nat):Int) ∧
    (i+1≤L∧(outs.set i r).length=L∧(∀d∈outs.set i r,d<4294967296)∧c1 / 4294967296<4294967296∧l'≤1∧val 4294967296 (jK.take (i+1))+4294967296^(i+1)*(c1 / 4294967296+l')=val 4294967296 ((outs.set i r).take (i+1))+t*val 4294967296 (vs.take (i+1))∧∀j,i+1≤j→(outs.set i r)[j]? = jK[j]?):=by
   intro y c1 hy hc1 h1 h2
   have hty:t*y≤4294967295*4294967295:=aMQ (by omega) (by omega)
   have hm:=aKZ c1 (show 0<4294967296 by decide)
   have hdv:=aMG c1 4294967296
   have hq:c1 / 4294967296<4294967296:=Nat.div_lt_of_lt_mul (by omega)
   refine⟨hq,wrap64 (by omega) (by omega),wrap64 (by omega) (by omega),?_⟩
   obtain⟨r,l',Ge,Jc,hd,hlw,mE⟩:∃r l':Nat,l'≤1∧r<4294967296∧r+c1 % 4294967296+l=x+4294967296*l'∧IntKind.u32.wrap ((x:Int)-((c1 % 4294967296:Nat):Int)-(l:Int))=((r:Nat):Int)∧((x:Int)-((c1 % 4294967296:Nat):Int)-(l:Int)<0↔l'=1):=by
    by_cases hn:(x:Int)-((c1 % 4294967296:Nat):Int)-(l:Int)<0
    ·exact⟨x+4294967296-c1 % 4294967296-l,1,by omega,by omega,by omega,O6 (by omega) hn (by omega),fun _=>rfl,fun _=>hn⟩
    ·exact⟨x-c1 % 4294967296-l,0,by omega,by omega,by omega,by rw[IntKind.wrap_u32];omega,fun h=>absurd h hn,fun h=>by omega⟩
   refine⟨r,l',Ge,mE,hlw,by omega,by rw[aMv];exact hJ,nW nJ Jc,hq,Ge,?_,fun j hj=>by rw[aKW (by omega)];exact IT j (by omega)⟩
   have hy':val 4294967296 (vs.take (i+1))=val 4294967296 (vs.take i)+4294967296^i*y:=by
    cases XH:vs[i]? with
    | some d=>rw[bE XH,h1 d XH]
    |
     none =>
     have hle:=aMO.1 XH
     rw[h2 hle,lD hle,lD (by omega),aMD,aME]
   rw[bE JK,hy',fK (by omega),aLY]
   have:=aeP hv hc1 hdv.symm hd
   rw[this,aMW,Nat.mul_left_comm t]
  by_cases bH:(i:Int)<(n2:Int)
  ·obtain⟨y,hy⟩:∃y,vs[i]? = some y:=⟨_,aKE (by omega)⟩
   have ly:=I2 y (aLr hy)
   have f1:bJ 1 (.ref b2 g2 0 n2 c2) (VI i) (H.set b (.row g ((pre++outs++post).map uV) 1 true))=some (.ptr b2 g2 i 0):=by rw[bB (rd2 outs) (by omega),aL5]
   have f2:bF false 1 (.ptr b2 g2 i 0) (H.set b (.row g ((pre++outs++post).map uV) 1 true))=some (uV y):=kB (rd2 outs) (by rw[yR i (by omega)];exact hy)
   have w3:IntKind.u64.wrap (y:Int)=(y:Int):=eR _ (by omega)
   have hty:t*y≤4294967295*4294967295:=aMQ (by omega) (by omega)
   have w4:IntKind.u64.wrap ((t:Int)*(y:Int))=((t*y:Nat):Int):=by rw[←aMX];exact eR _ (by omega)
   have w5:IntKind.u64.wrap ((cy:Int)+((t*y:Nat):Int))=((cy+t*y:Nat):Int):=by rw[←aMI];exact eR _ (by omega)
   have w6:IntKind.i64.wrap (((cy+t*y) % 4294967296:Nat):Int)=(((cy+t*y) % 4294967296:Nat):Int):=wrapN _ rfl (by omega)
   obtain⟨_,a1,a2,r,l',Ge,mE,hw,s1,s2,s3,s4,s5,s6,s7⟩:=step y (cy+t*y) ly rfl (fun d hd=>by rw[hy] at hd;injection hd with hd;exact hd.symm) (fun h=>by omega)
   by_cases hn:(x:Int)-(((cy+t*y) % 4294967296:Nat):Int)-(l:Int)<0
   ·have:=mE.1 hn
    subst this
    simp only[gS,k0,k1,k2,k7,k8,Ce,CS,bW,bH,e1,e2,e3,e4,f1,f2,w1,w3,w4,w5,w6,a1,a2,hn,hw,wii,wrap32,qQ,VX,Nat.reduceEqDiff,Nat.reduceAdd]
    exact⟨(i+1,outs.set i r,(cy+t*y) / 4294967296,1),by simp only;omega,s1,rfl,s2,s3,s4,s5,s6,s7,by (repeat' apply aMd)<;>first | rfl | trivial⟩
   ·have:l'=0:=by
     have:l'≠1:=fun h=>hn (mE.2 h)
     omega
    subst this
    simp only[gS,k0,k1,k2,k7,k8,Ce,CS,bW,bH,e1,e2,e3,e4,f1,f2,w1,w3,w4,w5,w6,a1,a2,hn,hw,wii,wrap32,qQ,VX,Nat.reduceEqDiff,Nat.reduceAdd]
    exact⟨(i+1,outs.set i r,(cy+t*y) / 4294967296,0),by simp only;omega,s1,rfl,s2,s3,s4,s5,s6,s7,by (repeat' apply aMd)<;>first | rfl | trivial⟩
  ·have w6:IntKind.i64.wrap ((cy % 4294967296:Nat):Int)=((cy % 4294967296:Nat):Int):=wrapN _ rfl (by omega)
   obtain⟨_,a1,a2,r,l',Ge,mE,hw,s1,s2,s3,s4,s5,s6,s7⟩:=step 0 cy (by decide) (by simp) (fun d hd=>by have:=(aKw.1 hd).1;omega) (fun _=>rfl)
   by_cases hn:(x:Int)-((cy % 4294967296:Nat):Int)-(l:Int)<0
   ·have:=mE.1 hn
    subst this
    simp only[gS,k0,k1,k2,k7,k8,Ce,CS,bW,bH,e1,e2,e3,e4,w1,w6,a1,a2,hn,hw,wii,wrap32,qQ,VX,Nat.reduceEqDiff,Nat.reduceAdd]
    exact⟨(i+1,outs.set i r,cy / 4294967296,1),by simp only;omega,s1,rfl,s2,s3,s4,s5,s6,s7,by (repeat' apply aMd)<;>first | rfl | trivial⟩
   ·have:l'=0:=by
     have:l'≠1:=fun h=>hn (mE.2 h)
     omega
    subst this
    simp only[gS,k0,k1,k2,k7,k8,Ce,CS,bW,bH,e1,e2,e3,e4,w1,w6,a1,a2,hn,hw,wii,wrap32,qQ,VX,Nat.reduceEqDiff,Nat.reduceAdd]
    exact⟨(i+1,outs.set i r,cy / 4294967296,0),by simp only;omega,s1,rfl,s2,s3,s4,s5,s6,s7,by (repeat' apply aMd)<;>first | rfl | trivial⟩
 ·have mI:i=L:=by omega
  subst mI
  rw[aLq (by omega),aLq (by omega),aLq (by omega)] at hv
  have avS:=rO nJ
  rw[hJ] at avS
  by_cases hz:l=0∧cy=0
  ·obtain⟨rfl,rfl⟩:=hz
   simp only[gS,k0,k1,k2,k7,k8,Ce,CS,bW,Int.natCast_zero,VX,Nat.reduceEqDiff,Nat.reduceAdd]
   exact⟨outs,rfl,hJ,nJ,.inl (by simpa using hv.symm)⟩
  ·have abK:cy+l=1:=by
    rcases alH hv avS hVL xB with h | h<;>omega
   rw[abK,Nat.mul_one] at hv
   have atQ:val 4294967296 jK<t*val 4294967296 vs:=by omega
   have fin:∀s2:List Nat,s2.length=i→(∀d∈s2,d<4294967296)→∀c,val 4294967296 outs+val 4294967296 vs=val 4294967296 s2+4294967296^i*c→val 4294967296 s2+t*val 4294967296 vs=val 4294967296 jK+val 4294967296 vs:=by
    intro s2 h2 h3 c h4
    have h5:=rO h3
    rw[h2] at h5
    exact ajX hv h4 h5 hVL xB SO (by omega)
   have hlen:=e0 (rd outs hJ)
   by_cases Co:(l:Int)=0
   ·have hcy:¬(cy:Int)=0:=by omega
    simp only[gS,k0,k1,k2,k7,k8,Ce,CS,bW,Co,hcy,hlen,VX,Nat.reduceEqDiff,Nat.reduceAdd]
    exact back _ outs hJ nJ fin atQ k0 k1 (by rfl) (by rfl) (by rfl)
   ·simp only[gS,k0,k1,k2,k7,k8,Ce,CS,bW,Co,hlen,VX,Nat.reduceEqDiff,Nat.reduceAdd]
    exact back _ outs hJ nJ fin atQ k0 k1 (by rfl) (by rfl) (by rfl)
end Go.PM
namespace Go.PM
section
variable {H:aA} {b g o i lo d:Nat} {L R:List VV} {low:List Nat}
theorem alI (hr:aG H b g=some (L++low.map tV++R,1,true)) (ho:L.length=o) (hi:low[i]? = some d):bF false 1 (.ptr b g (o+i) 0) H=some (VI (d:Int)):=by
 have bH:=(aKw.1 hi).1
 rw[Tw hr (x:=tV d) (by rw[S3 ho (by simpa using bH)];simp[hi])]
 rfl
theorem anA (hr:aG H b g=some (L++low.map tV++R,1,true)) (ho:L.length=o) (hi:i<low.length) (dR:lo≤b):bL lo 1 (.ptr b g (o+i) 0) (VI (d:Int)) H=some (H.set b (.row g (L++(low.set i d).map tV++R) 1 true)):=by
 rw[bS hr (by simp only[aKI,List.length_map];omega) dR rfl rfl,Z9 ho (by simpa using hi),List.map_set]
theorem X5 {n:Nat} {z:Int} (hr:aG H b g=some (L++low.map tV++VI z::R,1,true)) (ho:L.length=o) (hn:low.length=n):bF false 1 (.ptr b g (o+n) 0) H=some (VI z):=by
 rw[Tw hr (x:=VI z) (by rw[List.getElem?_append_right (by simp;omega)];simp[ho,hn])]
 rfl
theorem ajK {n:Nat} {z z':Int} (hr:aG H b g=some (L++low.map tV++VI z::R,1,true)) (ho:L.length=o) (hn:low.length=n) (dR:lo≤b):bL lo 1 (.ptr b g (o+n) 0) (VI z') H=some (H.set b (.row g (L++low.map tV++VI z'::R) 1 true)):=by
 rw[bS hr (by simp only[aKI,List.length_map,List.length_cons];omega) dR rfl rfl,List.set_append_right _ _ (by simp;omega)]
 congr 5
 simp[ho,hn]
end
theorem Sm {P A N B c u x t r k m q T:Nat} (h:A+P*c=N+t*B) (h1:r+m+c=u+T*k) (h2:m+T*q=x*t):(A+P*u)+P*T*(q+k)=(N+P*r)+t*(B+P*x):=by
 have e1:P*(r+m+c)=P*(u+T*k):=by rw[h1]
 have e2:P*(m+T*q)=P*(x*t):=by rw[h2]
 grind
theorem amY {x t:Nat} (hx:x<1000000000) (ht:t<1000000000):x*t≤999999998000000001∧x*t / 1000000000≤999999998:=by
 have h:x*t≤999999999*999999999:=aMQ (by omega) (by omega)
 omega
theorem aeA {H:aA} {lo b g o n N t top:Nat} {L R:List VV} {low vs:List Nat} (hr:aG H b g=some (L++low.map tV++VI (top:Int)::R,1,true)) (dR:lo≤b) (ho:L.length=o) (hl:low.length=n) (HC:vs.length=n) (hN:o+n<N) (Fs:N≤70368744177664)
  (hld:∀d∈low,d<1000000000) (I2:∀d∈vs,d<1000000000) (ht:t<1000000000) (anK:top<1000000000) :
  jE 204 [.ref b g 0 N N,jG vs,VI (o:Int),VI (t:Int)] lo H fun r H'=>∃(Dk:List Nat) (c:Nat),H'=H.set b (.row g (L++Dk.map tV++VI ((top:Int)-(c:Int))::R) 1 true)∧Dk.length=n∧(∀d∈Dk,d<1000000000)∧c≤1000000000 ∧
   r=VB (decide ((top:Int)-(c:Int)<0))∧val 1000000000 low+1000000000^n*c=val 1000000000 Dk+t*val 1000000000 vs:=by
 refine jE.walk ⟨true,false⟩ IW (aMl rfl) ?_
 have rd:∀(s:List Nat) (z:Int),aG (H.set b (.row g (L++s.map tV++VI z::R) 1 true)) b g=some (L++s.map tV++VI z::R,1,true):=fun s z=>pX hr
 have ad:∀(K:aA) (es:List VV) (i:Nat),aG K b g=some (es,1,true)→i≤n→bJ 1 (.ref b g 0 N N) (VI ((o+i:Nat):Int)) K=some (.ptr b g (o+i) 0):=fun K es i h hi=>by rw[bB h (by omega),aL5]
 simp only[EG,B6,eQ,VX,Nat.reduceEqDiff,Nat.reduceAdd]
 refine aP (fun(u:Nat×List Nat×Nat) ρ K=>u.1≤n∧K=H.set b (.row g (L++u.2.1.map tV++VI (top:Int)::R) 1 true)∧u.2.1.length=n∧(∀d∈u.2.1,d<1000000000)∧u.2.2≤1000000000∧val 1000000000 (low.take u.1)+1000000000^u.1*u.2.2=val 1000000000 (u.2.1.take u.1)+t*val 1000000000 (vs.take u.1)∧(∀j,u.1≤j→u.2.1[j]? = low[j]?) ∧
  ρ 0 = .ref b g 0 N N∧ρ 1=jG vs∧ρ 2=VI o∧ρ 3=VI t∧ρ 9=VI u.2.2∧ρ 13=jG vs∧ρ 14=VI vs.length∧ρ 15=VI u.1) (fun u=>n-u.1) (0,low,0) ⟨aK1 _,(Aw hr).symm,hl,hld,by simp,by simp[val],fun _ _=>rfl,by (repeat' apply aMd)<;>first | rfl | trivial⟩ ?_
 rintro⟨i,outs,c⟩ ρ K ⟨hi,rfl,hJ,nJ,hc,hv,IT,k0,k1,k2,k3,k9,Ce,CS,Nw⟩
 simp only at hi hJ nJ hc hv IT k9 Nw
 by_cases bW:(i:Int)<(vs.length:Int)
 ·obtain⟨u,hu⟩:∃u,outs[i]? = some u:=⟨_,aKE (by omega)⟩
  have lu:=nJ u (aLr hu)
  have hu':low[i]? = some u:=by rw[←IT i (aKx _)];exact hu
  obtain⟨x,hx⟩:∃x,vs[i]? = some x:=⟨_,aKE (by omega)⟩
  have lx:=I2 x (aLr hx)
  obtain⟨xt1,xt2⟩:=amY lx ht
  have e1:bJ 1 (jG vs) (VI i) (H.set b (.row g (L++outs.map tV++VI (top:Int)::R) 1 true))=some (.cI (tV x) 0):=aH (f:=tV) (t := .op) (size:=1) (k := .i64) hx rfl
  have w1:IntKind.i64.wrap ((o:Int)+(i:Int))=((o+i:Nat):Int):=wrapN _ (by omega) (by omega)
  have e2:=ad _ _ i (rd outs top) (by omega)
  have e3:=alI (rd outs top) ho hu
  have e4:∀d:Nat,bL lo 1 (.ptr b g (o+i) 0) (VI (d:Int)) (H.set b (.row g (L++outs.map tV++VI (top:Int)::R) 1 true))=some (H.set b (.row g (L++(outs.set i d).map tV++VI (top:Int)::R) 1 true)):=fun d=>by rw[anA (rd outs top) ho (by omega) dR,oL]
  have w2:IntKind.i64.wrap ((x:Int)*(t:Int))=((x*t:Nat):Int):=wrapN _ (by simp) (by omega)
  have r1:=RY (x*t)
  have q1:=RJ (x*t) (by omega)
  have hm:=aKZ (x*t) (show 0<1000000000 by decide)
  have hdv:=aMG (x*t) 1000000000
  have wi:IntKind.i64.wrap ((i:Int)+1)=((i+1:Nat):Int):=wrapN (i+1) (by omega) (by omega)
  generalize hmq:x*t % 1000000000=m at *
  generalize hqq:x*t / 1000000000=q at *
  have w3:IntKind.i64.wrap ((u:Int)-(m:Int))=(u:Int)-(m:Int):=wrap64 (by omega) (by omega)
  have w4:IntKind.i64.wrap ((u:Int)-(m:Int)-(c:Int))=(u:Int)-(m:Int)-(c:Int):=wrap64 (by omega) (by omega)
  have step:∀r k:Nat,r<1000000000→r+m+c=u+1000000000*k→val 1000000000 (low.take (i+1))+1000000000^(i+1)*(q+k)=val 1000000000 ((outs.set i r).take (i+1))+t*val 1000000000 (vs.take (i+1))∧(∀d∈outs.set i r,d<1000000000)∧(∀j,i+1≤j→(outs.set i r)[j]? = low[j]?)∧(outs.set i r).length=n:=by
   intro r k hr hk
   refine⟨?_,nW nJ hr,fun j hj=>by rw[aKW (by omega)];exact IT j (by omega),by rw[aMv];exact hJ⟩
   rw[bE hu',bE hx,fK (by omega),aLY]
   exact Sm hv hk hdv
  by_cases h1:(u:Int)-(m:Int)-(c:Int)<0
  ·have w5:IntKind.i64.wrap ((u:Int)-(m:Int)-(c:Int)+1000000000)=(u:Int)-(m:Int)-(c:Int)+1000000000:=wrap64 (by omega) (by omega)
   have w6:IntKind.i64.wrap ((q:Int)+1)=((q+1:Nat):Int):=wrapN _ (by omega) (by omega)
   by_cases h2:(u:Int)-(m:Int)-(c:Int)+1000000000<0
   ·obtain⟨r,hr⟩:∃r:Nat,r+m+c=u+1000000000*2:=⟨u+1000000000*2-m-c,by omega⟩
    have w7:IntKind.i64.wrap ((u:Int)-(m:Int)-(c:Int)+1000000000+1000000000)=(r:Int):=wrapN r (by omega) (by omega)
    have w8:IntKind.i64.wrap (((q+1:Nat):Int)+1)=((q+2:Nat):Int):=wrapN _ (by omega) (by omega)
    obtain⟨s1,s2,s3,s4⟩:=step r 2 (by omega) hr
    simp only[lJ,k0,k1,k2,k3,k9,Ce,CS,Nw,bW,e1,e2,e3,e4,w1,w2,w3,w4,w5,w6,w7,w8,wi,r1,q1,h1,h2,VX,Nat.reduceEqDiff,Nat.reduceAdd]
    refine⟨(i+1,outs.set i r,q+2),by simp only;omega,by omega,rfl,s4,s2,by simp only;omega,s1,s3,?_⟩
    try (repeat' apply aMd)<;>first | rfl | trivial
   ·obtain⟨r,hr⟩:∃r:Nat,r+m+c=u+1000000000*1:=⟨u+1000000000*1-m-c,by omega⟩
    have w7:IntKind.i64.wrap ((u:Int)-(m:Int)-(c:Int)+1000000000)=(r:Int):=wrapN r (by omega) (by omega)
    have h3:¬(r:Int)<0:=by omega
    obtain⟨s1,s2,s3,s4⟩:=step r 1 (by omega) hr
    simp only[lJ,k0,k1,k2,k3,k9,Ce,CS,Nw,bW,e1,e2,e3,e4,w1,w2,w3,w4,w6,w7,wi,r1,q1,h1,h3,VX,Nat.reduceEqDiff,Nat.reduceAdd]
    refine⟨(i+1,outs.set i r,q+1),by simp only;omega,by omega,rfl,s4,s2,by simp only;omega,s1,s3,?_⟩
    try (repeat' apply aMd)<;>first | rfl | trivial
  ·obtain⟨r,hr⟩:∃r:Nat,r+m+c=u+1000000000*0:=⟨u-m-c,by omega⟩
   have w7:IntKind.i64.wrap ((u:Int)-(m:Int)-(c:Int))=(r:Int):=wrapN r (by omega) (by omega)
   have h3:¬(r:Int)<0:=by omega
   obtain⟨s1,s2,s3,s4⟩:=step r 0 (by omega) hr
   simp only[lJ,k0,k1,k2,k3,k9,Ce,CS,Nw,bW,e1,e2,e3,e4,w1,w2,w3,w7,wi,r1,q1,h3,VX,Nat.reduceEqDiff,Nat.reduceAdd]
   refine⟨(i+1,outs.set i r,q),by simp only;omega,by omega,rfl,s4,s2,by simp only;omega,s1,s3,?_⟩
   try (repeat' apply aMd)<;>first | rfl | trivial
 ·have mI:i=n:=by omega
  subst mI
  rw[aLq (by omega),aLq (by omega),aLq (by omega)] at hv
  have w1:IntKind.i64.wrap ((o:Int)+(vs.length:Int))=((o+i:Nat):Int):=wrapN _ (by omega) (by omega)
  have e2:=ad _ _ i (rd outs top) (by omega)
  have e2':=ad _ _ i (rd outs ((top:Int)-(c:Int))) (by omega)
  have e3:=X5 (rd outs top) ho hJ
  have e3':=X5 (rd outs ((top:Int)-(c:Int))) ho hJ
  have e4:bL lo 1 (.ptr b g (o+i) 0) (VI ((top:Int)-(c:Int))) (H.set b (.row g (L++outs.map tV++VI (top:Int)::R) 1 true))=some (H.set b (.row g (L++outs.map tV++VI ((top:Int)-(c:Int))::R) 1 true)):=by rw[ajK (rd outs top) ho hJ dR,oL]
  have w2:IntKind.i64.wrap ((top:Int)-(c:Int))=(top:Int)-(c:Int):=wrap64 (by omega) (by omega)
  simp only[lJ,k0,k1,k2,k3,k9,Ce,CS,Nw,bW,eQ,w1,w2,e2,e2',e3,e3',e4,VX,Nat.reduceEqDiff,Nat.reduceAdd]
  refine⟨outs,c,rfl,hJ,nJ,hc,?_,hv⟩
  try rfl
theorem afI {H:aA} {lo b g o n N:Nat} {z:Int} {L R:List VV} {low vs:List Nat} (hr:aG H b g=some (L++low.map tV++VI z::R,1,true)) (dR:lo≤b) (ho:L.length=o) (hl:low.length=n) (HC:vs.length=n) (hN:o+n<N) (Fs:N≤70368744177664)
  (hld:∀d∈low,d<1000000000) (I2:∀d∈vs,d<1000000000) (hz : -1000000000≤z) (NJ:z≤1000000000) :
  jE 205 [.ref b g 0 N N,jG vs,VI (o:Int)] lo H fun r H'=>∃(Dk:List Nat) (c:Nat),H'=H.set b (.row g (L++Dk.map tV++VI (z+(c:Int))::R) 1 true)∧Dk.length=n∧(∀d∈Dk,d<1000000000)∧c≤1 ∧
   val 1000000000 low+val 1000000000 vs=val 1000000000 Dk+1000000000^n*c:=by
 refine jE.walk ⟨true,false⟩ JC (aMl rfl) ?_
 have rd:∀(s:List Nat) (z:Int),aG (H.set b (.row g (L++s.map tV++VI z::R) 1 true)) b g=some (L++s.map tV++VI z::R,1,true):=fun s z=>pX hr
 have ad:∀(K:aA) (es:List VV) (i:Nat),aG K b g=some (es,1,true)→i≤n→bJ 1 (.ref b g 0 N N) (VI ((o+i:Nat):Int)) K=some (.ptr b g (o+i) 0):=fun K es i h hi=>by rw[bB h (by omega),aL5]
 simp only[E3,B9,eQ,VX,Nat.reduceEqDiff,Nat.reduceAdd]
 refine aP (fun(u:Nat×List Nat×Nat) ρ K=>u.1≤n∧K=H.set b (.row g (L++u.2.1.map tV++VI z::R) 1 true)∧u.2.1.length=n∧(∀d∈u.2.1,d<1000000000)∧u.2.2≤1∧val 1000000000 (low.take u.1)+val 1000000000 (vs.take u.1)=val 1000000000 (u.2.1.take u.1)+1000000000^u.1*u.2.2∧(∀j,u.1≤j→u.2.1[j]? = low[j]?) ∧
  ρ 0 = .ref b g 0 N N∧ρ 1=jG vs∧ρ 2=VI o∧ρ 6=VI u.2.2∧ρ 10=jG vs∧ρ 11=VI vs.length∧ρ 12=VI u.1) (fun u=>n-u.1) (0,low,0) ⟨aK1 _,(Aw hr).symm,hl,hld,by simp,by simp[val],fun _ _=>rfl,by (repeat' apply aMd)<;>first | rfl | trivial⟩ ?_
 rintro⟨i,outs,c⟩ ρ K ⟨hi,rfl,hJ,nJ,hc,hv,IT,k0,k1,k2,k6,k10,Z4,KC⟩
 simp only at hi hJ nJ hc hv IT k6 KC
 by_cases bW:(i:Int)<(vs.length:Int)
 ·obtain⟨u,hu⟩:∃u,outs[i]? = some u:=⟨_,aKE (by omega)⟩
  have lu:=nJ u (aLr hu)
  have hu':low[i]? = some u:=by rw[←IT i (aKx _)];exact hu
  obtain⟨x,hx⟩:∃x,vs[i]? = some x:=⟨_,aKE (by omega)⟩
  have lx:=I2 x (aLr hx)
  have e1:bJ 1 (jG vs) (VI i) (H.set b (.row g (L++outs.map tV++VI z::R) 1 true))=some (.cI (tV x) 0):=aH (f:=tV) (t := .op) (size:=1) (k := .i64) hx rfl
  have w1:IntKind.i64.wrap ((o:Int)+(i:Int))=((o+i:Nat):Int):=wrapN _ (by omega) (by omega)
  have e2:=ad _ _ i (rd outs z) (by omega)
  have e3:=alI (rd outs z) ho hu
  have e4:∀d:Nat,bL lo 1 (.ptr b g (o+i) 0) (VI (d:Int)) (H.set b (.row g (L++outs.map tV++VI z::R) 1 true))=some (H.set b (.row g (L++(outs.set i d).map tV++VI z::R) 1 true)):=fun d=>by rw[anA (rd outs z) ho (by omega) dR,oL]
  have w2:IntKind.i64.wrap ((u:Int)+(x:Int))=((u+x:Nat):Int):=wrapN _ (by omega) (by omega)
  have w3:IntKind.i64.wrap (((u+x:Nat):Int)+(c:Int))=((u+x+c:Nat):Int):=wrapN _ (by omega) (by omega)
  have r1:=RY (u+x+c)
  have q1:=RJ (u+x+c) (by omega)
  have wi:IntKind.i64.wrap ((i:Int)+1)=((i+1:Nat):Int):=wrapN (i+1) (by omega) (by omega)
  simp only[uY,k0,k1,k2,k6,k10,Z4,KC,bW,e1,e2,e3,e4,w1,w2,w3,wi,r1,q1,VX,Nat.reduceEqDiff,Nat.reduceAdd]
  refine⟨(i+1,outs.set i ((u+x+c) % 1000000000),(u+x+c) / 1000000000),by simp only;omega,by omega,rfl,by rw[aMv];exact hJ,nW nJ (aKZ _ (by decide)),by simp only;omega,?_,fun j hj=>by rw[aKW (by omega)];exact IT j (by omega),?_⟩
  ·simp only
   rw[bE hu',bE hx,fK (by omega),aLY]
   exact Is hv (show c+u+x=u+x+c by omega) (aMG _ _)
  ·try (repeat' apply aMd)<;>first | rfl | trivial
 ·have mI:i=n:=by omega
  subst mI
  rw[aLq (by omega),aLq (by omega),aLq (by omega)] at hv
  have w1:IntKind.i64.wrap ((o:Int)+(vs.length:Int))=((o+i:Nat):Int):=wrapN _ (by omega) (by omega)
  have e2:=ad _ _ i (rd outs z) (by omega)
  have e3:=X5 (rd outs z) ho hJ
  have e4:bL lo 1 (.ptr b g (o+i) 0) (VI (z+(c:Int))) (H.set b (.row g (L++outs.map tV++VI z::R) 1 true))=some (H.set b (.row g (L++outs.map tV++VI (z+(c:Int))::R) 1 true)):=by rw[ajK (rd outs z) ho hJ dR,oL]
  have w2:IntKind.i64.wrap (z+(c:Int))=z+(c:Int):=wrap64 (by omega) (by omega)
  simp only[uY,k0,k1,k2,k6,k10,Z4,KC,bW,eQ,w1,w2,e2,e3,e4,VX,Nat.reduceEqDiff,Nat.reduceAdd]
  exact⟨outs,c,rfl,hJ,nJ,hc,hv⟩
end Go.PM
namespace Go.PM
theorem AI {d:Nat} {H:aA}:fz (d+1) H (.tree [] .nil)=some (bR 0):=by
 rw[Gt]
 unfold fz
 have:aY (.tree [] .nil)=false:=by simp[aY]
 simp only[this,aK9,if_false]
 rfl
theorem agR {d:Nat} {H:aA} {m:Nat} {t:TK} (ht:t = .cl 1∨t = .op):fz (d+2) H (.tree ((aD 4294967296 m).map uV) t)=some (bR m):=by
 rcases ht with rfl | rfl
 ·unfold fz
  have:aY (.tree ((aD 4294967296 m).map uV) (.cl 1))=false:=by simp[aY]
  simp only[this,aK9,if_false]
  rw[mapM_pure (fO fun _=>rfl)]
  rfl
 ·exact aN (bU m)
abbrev H3 (us ws os:List Nat):aA:=[.row 0 (us.map uV) 1 true,.row 0 (ws.map uV) 1 true,.row 0 (os.map uV) 1 true]
theorem E6 {us ws os:List Nat}:aG (H3 us ws os) 0 0=some (us.map uV,1,true):=rfl
theorem aBS {us ws os:List Nat}:aG (H3 us ws os) 1 0=some (ws.map uV,1,true):=rfl
theorem aqI {us ws os:List Nat}:aG (H3 us ws os) 2 0=some (os.map uV,1,true):=rfl
theorem adD {us:List Nat} {i n N V:Nat} (hN:us.length=N) (bW:i+n<N) (hd:∀d∈us,d<4294967296) (hV:V<4294967296^n) (ET:val 4294967296 (us.drop (i+1))<V) :
  us=us.take i++(us.drop i).take (n+1)++us.drop (i+(n+1))∧(us.take i).length=i∧((us.drop i).take (n+1)).length=n+1∧val 4294967296 ((us.drop i).take (n+1))<4294967296*V∧val 4294967296 (us.drop i)=val 4294967296 ((us.drop i).take (n+1))∧val 4294967296 (us.drop (i+(n+1)))=0∧∀j,j<n+1→((us.drop i).take (n+1))[j]? = us[i+j]? := by
 obtain⟨x,hx⟩:∃x,us[i]? = some x:=⟨_,aKE (by omega)⟩
 have lx:=hd x (aLr hx)
 have h1:=vK (b:=4294967296) hx
 have h2:val 4294967296 (us.drop i)<4294967296*V:=by
  have:4294967296*(val 4294967296 (us.drop (i+1))+1)≤4294967296*V:=aMw _ ET
  omega
 have h3:=sP (b:=4294967296) (us.drop i) (n+1)
 have h4:((us.drop i).take (n+1)).length=n+1:=by rw[aL6,aMY];omega
 rw[h4,aLx] at h3
 have h5:val 4294967296 (us.drop (i+(n+1)))=0:=by
  rcases Nat.eq_zero_or_pos (val 4294967296 (us.drop (i+(n+1)))) with h | h
  ·exact h
  ·have h6:4294967296^(n+1)*1≤4294967296^(n+1)*val 4294967296 (us.drop (i+(n+1))):=aMw _ h
   have h7:4294967296*V≤4294967296^(n+1):=by rw[aLY,aLZ];exact aKY _ (by omega)
   omega
 rw[h5,aMD,aME] at h3
 refine⟨?_,by rw[aL6];omega,h4,by omega,h3,h5,fun j hj => ?_⟩
 ·rw[aMj,←aLx,aLG,aLG]
 ·rw[aKU hj,aKv]
theorem VA {x D p w:Nat} (hp:0<p) (hw:p*w=4294967296):(x+4294967296*D) / p=((D % 4294967296*4294967296+x) / p) % 4294967296+4294967296*(D / p)∨¬x<4294967296:=by
 rcases Nat.lt_or_ge x 4294967296 with hx | hx
 ·left
  have h1:(x+4294967296*D) / p / 4294967296=D / p:=by
   rw[aMK,aLZ p,←aMK,aMZ _ _ (by decide),aL4 hx,aL5]
  have h2:(x+4294967296*D) / p % 4294967296=(D % 4294967296*4294967296+x) / p % 4294967296:=by
   have e:x+4294967296*D=(D % 4294967296*4294967296+x)+p*(4294967296*(w*(D / 4294967296))):=by
    have h3:=aMG D 4294967296
    have h4:p*(4294967296*(w*(D / 4294967296)))=(p*w)*(4294967296*(D / 4294967296)):=by grind
    rw[h4,hw]
    omega
   rw[e,aMZ _ _ hp,aM0]
  have:=aMG ((x+4294967296*D) / p) 4294967296
  rw[h1,h2] at this
  exact this.symm
 ·right
  omega
theorem Yv {x:Nat} (h0:x≠0) (hx:x<4294967296):∃s,s≤31∧TC 198 [uV x] (VI (s:Nat))∧x*2^s<4294967296:=by
 obtain⟨h1,h2,h3⟩:=Lib.bitLenAux_bounds 64 x (by omega) h0
 have h4:Lib.bitLenAux 64 x-1<32:=by
  have:2^(Lib.bitLenAux 64 x-1)<2^32:=by omega
  exact(aM1 (by decide)).1 this
 refine⟨32-Lib.bitLenAux 64 x,by omega,?_,?_⟩
 ·have:=adL x hx
  have e:(((32-Lib.bitLenAux 64 x:Nat)):Int)=32-(Lib.bitLen x:Int):=by unfold Lib.bitLen;omega
  rw[e]
  exact this
 ·have:2^Lib.bitLenAux 64 x*2^(32-Lib.bitLenAux 64 x)=4294967296:=by rw[←Nat.pow_add,show Lib.bitLenAux 64 x+(32-Lib.bitLenAux 64 x)=32 by omega]
  rw[←this]
  exact aM2 h3 (Nat.pow_pos (by decide))
theorem adC {us ws os:List Nat} {k N s w0:Nat} {ρ:cV} {Q:VQ} (hs:s≤31) (hw:2^s*w0=4294967296) (hN:us.length=N) (hk:k≤N) (Fs:N≤70368744177664) (hd:∀d∈us,d<4294967296) (g8:ρ 8=VI s) (g9:ρ 9 = .ref 0 0 0 k N) (aDd:ρ 147=VI k) (aDQ:ρ 148=VI 0)
  (hQ:∀(aQ:cV) (Ik:List Nat),aQ 9 = .ref 0 0 0 k N→aQ 13=ρ 13→Ik.length=N→(∀d∈Ik,d<4294967296)→val 4294967296 (Ik.take k)=val 4294967296 (us.take k) / 2^s→Q (.exit 4) aQ (H3 Ik ws os)) :
  VW ⟨true,false⟩ 0 (.loop mV) Q ρ (H3 us ws os):=by
 have hp:0<2^s:=Nat.pow_pos (by decide)
 refine aP (fun(t:Nat×List Nat) aQ H=>t.1≤k∧H=H3 t.2 ws os∧t.2.length=N∧(∀d∈t.2,d<4294967296)∧(∀j,t.1≤j→t.2[j]? = us[j]?)∧val 4294967296 (t.2.take t.1)+4294967296^t.1*(val 4294967296 ((us.take k).drop t.1) / 2^s)=val 4294967296 (us.take k) / 2^s ∧
  aQ 8=VI s∧aQ 9 = .ref 0 0 0 k N∧aQ 13=ρ 13∧aQ 147=VI k∧aQ 148=VI t.1) (fun t=>k-t.1) (0,us) ⟨aK1 _,rfl,hN,hd,fun _ _=>rfl,by simp[val],g8,g9,rfl,aDd,aDQ⟩ ?_
 rintro⟨i,vs⟩ tC H ⟨hi,rfl,HC,I2,IT,hv,k8,k9,Ce,axP,asY⟩
 simp only at hi HC I2 IT hv asY
 by_cases bW:(i:Int)<(k:Int)
 ·obtain⟨x,hx⟩:∃x,us[i]? = some x:=⟨_,aKE (by omega)⟩
  have hx2:vs[i]? = some x:=by rw[IT i (aKx _)];exact hx
  have lx:=hd x (aLr hx)
  have hx3:(us.take k)[i]? = some x:=by rw[aKU (by omega)];exact hx
  have h1:=vK (b:=4294967296) hx3
  generalize hD:val 4294967296 ((us.take k).drop (i+1))=D at *
  have hlen:rW (.ref 0 0 0 k N) (H3 vs ws os)=some (VI k):=eH E6
  have e1:bJ 1 (.ref 0 0 0 k N) (VI i) (H3 vs ws os)=some (.ptr 0 0 i 0):=by rw[bB E6 (by omega),aL5]
  have e2:bF false 1 (.ptr 0 0 i 0) (H3 vs ws os)=some (uV x):=kB E6 hx2
  have e3:∀d:Nat,bL 0 1 (.ptr 0 0 i 0) (uV d) (H3 vs ws os)=some (H3 (vs.set i d) ws os):=fun d=>by
   rw[dQ (f:=uV) (e:=1) E6 (by omega) (aKx _) rfl rfl]
   rfl
  have wi:IntKind.i64.wrap ((i:Int)+1)=((i+1:Nat):Int):=wrapN (i+1) (by omega) (by omega)
  have wx:IntKind.u64.wrap (x:Int)=(x:Int):=eR _ (by omega)
  have hm:=aKZ D (show 0<4294967296 by decide)
  have w5:=GQ (D % 4294967296) .u64 hm
  have w6:IntKind.u64.wrap (((D % 4294967296*4294967296:Nat):Int)+(x:Int))=((D % 4294967296*4294967296+x:Nat):Int):=by rw[←aMI];exact eR _ (by omega)
  have w7:=anT (D % 4294967296*4294967296+x) s hs
  have sd:(x+4294967296*D) / 2^s=((D % 4294967296*4294967296+x) / 2^s) % 4294967296+4294967296*(D / 2^s):=by
   rcases VA (x:=x) (D:=D) hp hw with h | h
   ·exact h
   ·exact absurd lx h
  have next:∃s':Nat×List Nat,k-s'.1<k-i∧s'.1≤k∧H3 (vs.set i (((D % 4294967296*4294967296+x) / 2^s) % 4294967296)) ws os=H3 s'.2 ws os∧s'.2.length=N∧(∀d∈s'.2,d<4294967296)∧(∀j,s'.1≤j→s'.2[j]? = us[j]?)∧val 4294967296 (s'.2.take s'.1)+4294967296^s'.1*(val 4294967296 ((us.take k).drop s'.1) / 2^s)=val 4294967296 (us.take k) / 2^s∧s'.1=i+1:=by
   refine⟨(i+1,vs.set i (((D % 4294967296*4294967296+x) / 2^s) % 4294967296)),by simp only;omega,by simp only;omega,rfl,by simp only[aMv];exact HC,nW I2 (aKZ _ (by decide)),fun j hj => ?_,?_,rfl⟩
   ·simp only at hj ⊢
    rw[aKW (by omega)]
    exact IT j (by omega)
   ·simp only
    rw[fK (by omega),hD,←hv,h1,sd,aLY]
    generalize (D % 4294967296*4294967296+x) / 2^s % 4294967296=q
    generalize D / 2^s=E
    rw[aMW,aMN,Nat.add_assoc]
  obtain⟨s',n1,n2,n3,n4,n5,n6,n7,n8⟩:=next
  by_cases aBb:((i+1:Nat):Int)<(k:Int)
  ·obtain⟨h,hh⟩:∃h,us[i+1]? = some h:=⟨_,aKE (by omega)⟩
   have hh2:vs[i+1]? = some h:=by rw[IT (i+1) (by omega)];exact hh
   have hhD:D % 4294967296=h:=by
    have hh3:(us.take k)[i+1]? = some h:=by rw[aKU (by omega)];exact hh
    have:=vK (b:=4294967296) hh3
    rw[hD] at this
    have lh:=hd h (aLr hh)
    omega
   have f1:bJ 1 (.ref 0 0 0 k N) (VI ((i+1:Nat):Int)) (H3 vs ws os)=some (.ptr 0 0 (i+1) 0):=by rw[bB E6 (by omega),aL5]
   have f2:bF false 1 (.ptr 0 0 (i+1) 0) (H3 vs ws os)=some (uV h):=kB E6 hh2
   have wh:IntKind.u64.wrap (h:Int)=(h:Int):=eR _ (by omega)
   rw[hhD] at w5 w6 w7 n3
   simp only[mV,k8,k9,axP,asY,bW,aBb,hlen,e1,e2,e3,f1,f2,wi,wx,wh,w5,w6,w7,wrap32,VX,Nat.reduceEqDiff,Nat.reduceAdd]
   exact⟨s',n1,n2,n3,n4,n5,n6,n7,Ce,by rw[n8]⟩
  ·have hD0:D=0:=by
    rw[←hD,aMq (by rw[aL6];omega)]
    rfl
   subst hD0
   have w5':dK .shl (.int .u64 0) (.int .u64 32)=some (.int .u64 0):=GQ 0 .u64 (by decide)
   have w6':IntKind.u64.wrap ((0:Int)+(x:Int))=(x:Int):=by rw[Int.zero_add];exact wx
   have w7':=anT x s hs
   simp only[Nat.zero_mod,Nat.zero_mul,aL5] at n3
   simp only[mV,k8,k9,axP,asY,bW,aBb,hlen,e1,e2,e3,wi,wx,w5',w6',w7',wrap32,VX,Nat.reduceEqDiff,Nat.reduceAdd]
   exact⟨s',n1,n2,n3,n4,n5,n6,n7,Ce,by rw[n8]⟩
 ·have mI:i=k:=by omega
  subst mI
  rw[aMq (by rw[aL6];omega)] at hv
  simp only[val,Nat.zero_div,aMD,aME] at hv
  simp only[mV,k8,k9,axP,asY,bW,VX,Nat.reduceEqDiff,Nat.reduceAdd]
  exact hQ _ vs k9 Ce HC I2 hv
end Go.PM
namespace Go.PM
theorem XB {jK vs us ws os:List Nat} {n u2 u1 u0 v1 v0 N k g left:Nat} (G:Ar 4294967296 jK vs n u2 u1 u0 v1 v0) {ρ:cV} {Q:VQ} (hN:us.length=N) (Yj:2≤k) (hkN:k<N) (Fs:N≤70368744177664) (hu0:us[k-2]? = some u0)
  (g9:ρ 9 = .ref 0 0 0 N N) (g11:ρ 11=VK .u64 v1) (g12:ρ 12=VK .u64 v0) (g15:ρ 15=VI k) (g17:ρ 17=VK .u64 g) (g18:ρ 18=VK .u64 left) (hh:u2*4294967296+u1=g*v1+left) (hq:val 4294967296 jK / val 4294967296 vs≤g) (hl:left<4294967296) (hgb:g<18446744073709551616)
  (hQ:∀(aQ:cV) (g':Nat),val 4294967296 jK / val 4294967296 vs≤g'→g'≤val 4294967296 jK / val 4294967296 vs+1→g'<4294967296→aQ 17=VK .u64 g'→aQ 8=ρ 8→aQ 9=ρ 9→aQ 10=ρ 10→aQ 11=ρ 11→aQ 12=ρ 12→aQ 13=ρ 13→aQ 14=ρ 14→aQ 15=ρ 15→Q (.exit 2) aQ (H3 us ws os)) :
  VW ⟨true,false⟩ 0 (.loop iE) Q ρ (H3 us ws os):=by
 have lv1:=G.aaK
 have lv0:=G.aiD
 have lu0:=G.avA
 have qlt:=G.apH
 have kZ:=G.pos
 refine aP (fun(t:Nat×Nat) aQ H=>H=H3 us ws os∧u2*4294967296+u1=t.1*v1+t.2∧val 4294967296 jK / val 4294967296 vs≤t.1∧t.2<4294967296∧t.1<18446744073709551616 ∧
  aQ 9 = .ref 0 0 0 N N∧aQ 11=VK .u64 v1∧aQ 12=VK .u64 v0∧aQ 15=VI k∧aQ 17=VK .u64 t.1∧aQ 18=VK .u64 t.2∧aQ 8=ρ 8∧aQ 10=ρ 10∧aQ 13=ρ 13∧aQ 14=ρ 14) (fun t=>4294967296-t.2) (g,left) ⟨rfl,hh,hq,hl,hgb,g9,g11,g12,g15,g17,g18,rfl,rfl,rfl,rfl⟩ ?_
 rintro⟨g,left⟩ tC H ⟨rfl,hh,hq,hl,hgb,k9,Z4,KC,Nw,IH,W9,k8,k10,Ce,CS⟩
 simp only at hh hq hl hgb IH W9
 have e1:bJ 1 (.ref 0 0 0 N N) (VI ((k-2:Nat):Int)) (H3 us ws os)=some (.ptr 0 0 (k-2) 0):=by rw[bB E6 (by omega),aL5]
 have e2:bF false 1 (.ptr 0 0 (k-2) 0) (H3 us ws os)=some (uV u0):=kB E6 hu0
 have wk:IntKind.i64.wrap ((k:Int)-2)=((k-2:Nat):Int):=wrapN _ (by omega) (by omega)
 have wu:IntKind.u64.wrap (u0:Int)=(u0:Int):=eR _ (by omega)
 have ws:=GQ left .u64 hl
 have wa:IntKind.u64.wrap (((left*4294967296:Nat):Int)+(u0:Int))=((left*4294967296+u0:Nat):Int):=by rw[←aMI];exact eR _ (by omega)
 have wl:IntKind.u64.wrap ((left:Int)+(v1:Int))=((left+v1:Nat):Int):=by rw[←aMI];exact eR _ (by omega)
 have same:tC 9=ρ 9∧tC 11=ρ 11∧tC 12=ρ 12∧tC 15=ρ 15:=⟨by rw[k9,g9],by rw[Z4,g11],by rw[KC,g12],by rw[Nw,g15]⟩
 obtain⟨s9,s11,s12,s15⟩:=same
 have down:val 4294967296 jK / val 4294967296 vs<g→∃g',g=g'+1∧IntKind.u64.wrap ((g:Int)-1)=(g':Int)∧u2*4294967296+u1=g'*v1+(left+v1)∧val 4294967296 jK / val 4294967296 vs≤g':=by
  intro h
  have hg1:1≤g:=aM3 (aK1 _) h
  obtain⟨g',rfl⟩:∃g',g=g'+1:=⟨g-1,by omega⟩
  refine⟨g',rfl,?_,?_,by omega⟩
  ·rw[show ((g'+1:Nat):Int)-1=(g':Int) by omega]
   exact eR _ (by omega)
  ·rw[hh,aK2]
   omega
 by_cases hA:(4294967296:Int)≤(g:Int)
 ·obtain⟨g',hg',wg,YL,Oq⟩:=down (by omega)
  by_cases hB:(4294967296:Int)≤((left+v1:Nat):Int)
  ·obtain⟨c1,c2⟩:=G.broken YL (by omega)
   simp only[iE,k9,Z4,KC,Nw,IH,W9,hA,hB,wg,wl,VX,Nat.reduceEqDiff,Nat.reduceAdd]
   exact hQ _ g' Oq (G.abN YL (by omega) c2) c1 rfl k8 s9 k10 s11 s12 Ce CS s15
  ·simp only[iE,k9,Z4,KC,Nw,IH,W9,hA,hB,wg,wl,VX,Nat.reduceEqDiff,Nat.reduceAdd]
   exact⟨(g',left+v1),by simp only;omega,YL,Oq,by simp only;omega,by simp only;omega,by rfl,by rfl,k8,k10,Ce,CS⟩
 ·have hgv:g*v0≤4294967295*4294967295:=aMQ (by omega) (by omega)
  have wm:IntKind.u64.wrap ((g:Int)*(v0:Int))=((g*v0:Nat):Int):=by rw[←aMX];exact eR _ (by omega)
  by_cases hT:((left*4294967296+u0:Nat):Int)<((g*v0:Nat):Int)
  ·obtain⟨g',hg',wg,YL,Oq⟩:=down (G.too hh (by omega))
   by_cases hB:(4294967296:Int)≤((left+v1:Nat):Int)
   ·obtain⟨c1,c2⟩:=G.broken YL (by omega)
    simp only[iE,k9,Z4,KC,Nw,IH,W9,hA,hB,hT,e1,e2,wk,wu,ws,wa,wm,wg,wl,VX,Nat.reduceEqDiff,Nat.reduceAdd]
    exact hQ _ g' Oq (G.abN YL (by omega) c2) c1 rfl k8 s9 k10 s11 s12 Ce CS s15
   ·simp only[iE,k9,Z4,KC,Nw,IH,W9,hA,hB,hT,e1,e2,wk,wu,ws,wa,wm,wg,wl,VX,Nat.reduceEqDiff,Nat.reduceAdd]
    exact⟨(g',left+v1),by simp only;omega,YL,Oq,by simp only;omega,by simp only;omega,by rfl,by rfl,k8,k10,Ce,CS⟩
  ·simp only[iE,k9,Z4,KC,Nw,IH,W9,hA,hT,e1,e2,wk,wu,ws,wa,wm,VX,Nat.reduceEqDiff,Nat.reduceAdd]
   exact hQ _ g hq (G.abN hh (by omega) (by omega)) (by omega) IH k8 s9 k10 s11 s12 Ce CS s15
theorem Ow {X S S' R V q Q P w:Nat} (hs:S=q*V+S') (h:X+P*S+P*w*V*Q=R):X+P*S'+P*V*(q+w*Q)=R:=by
 subst hs
 grind
theorem aiG {Hk ws os0 vs:List Nat} {N m n v1 v0 A s:Nat} {ρ:cV} {Q:VQ} (hN:Hk.length=N) (hm:m+(n+2)=N) (Fs:N≤70368744177664) (LR:∀d∈Hk,d<4294967296) (hws:ws.take (n+2)=vs) (hwl:ws.length=n+3) (HC:vs.length=n+2) (I2:∀d∈vs,d<4294967296) (f1:vs[n+1]? = some v1) (f0:vs[n]? = some v0) (kZ:1≤v1)
  (hA:val 4294967296 Hk=A) (ET:val 4294967296 (Hk.drop m)<val 4294967296 vs) (hJ:os0.length=m) (nJ:∀d∈os0,d<4294967296)
  (g8:ρ 8=VI s) (g9:ρ 9 = .ref 0 0 0 N N) (g10:ρ 10 = .ref 1 0 0 (n+2) (n+3)) (g11:ρ 11=VK .u64 v1) (g12:ρ 12=VK .u64 v0) (g13:ρ 13 = .ref 2 0 0 m m) (g14:ρ 14=VI ((m:Int)-1))
  (hQ:∀(aQ:cV) (us os:List Nat),aQ 8=VI s→aQ 9 = .ref 0 0 0 N N→aQ 13 = .ref 2 0 0 m m→us.length=N→(∀d∈us,d<4294967296)→os.length=m→(∀d∈os,d<4294967296)→val 4294967296 us+val 4294967296 vs*val 4294967296 os=A→val 4294967296 us<val 4294967296 vs→Q (.exit 0) aQ (H3 us ws os)) :
  VW ⟨true,false⟩ 0 (.loop qR) Q ρ (H3 Hk ws os0):=by
 have hVb:=rO I2
 rw[HC] at hVb
 refine aP (fun(t:Nat×List Nat×List Nat) aQ H=>t.1≤m∧H=H3 t.2.1 ws t.2.2∧t.2.1.length=N∧(∀d∈t.2.1,d<4294967296)∧t.2.2.length=m∧(∀d∈t.2.2,d<4294967296)∧val 4294967296 (t.2.1.drop t.1)<val 4294967296 vs∧val 4294967296 t.2.1+4294967296^t.1*val 4294967296 vs*val 4294967296 (t.2.2.drop t.1)=A ∧
  aQ 8=VI s∧aQ 9 = .ref 0 0 0 N N∧aQ 10 = .ref 1 0 0 (n+2) (n+3)∧aQ 11=VK .u64 v1∧aQ 12=VK .u64 v0∧aQ 13 = .ref 2 0 0 m m∧aQ 14=VI ((t.1:Int)-1)) (fun t=>t.1) (m,Hk,os0) ⟨aKx _,rfl,hN,LR,hJ,nJ,ET,by rw[aMq (by simp only;omega)];simpa[val] using hA,g8,g9,g10,g11,g12,g13,g14⟩ ?_
 rintro⟨j,us,os⟩ tC H ⟨hj,rfl,T0,LR,hJ,nJ,bH,hv,k8,k9,k10,Z4,KC,Ce,CS⟩
 simp only at hj T0 LR hJ nJ bH hv CS
 by_cases hz:(0:Int)≤(j:Int)-1
 ·obtain⟨i,rfl⟩:∃i,j=i+1:=⟨j-1,by omega⟩
  have Ev:((i+1:Nat):Int)-1=(i:Int):=by omega
  rw[Ev] at CS hz
  obtain⟨YR,DL,SO,hsW,aiH,amQ,yR⟩:=adD (n:=n+2) T0 (by omega) LR hVb bH
  generalize acX:(us.drop i).take (n+2+1)=jK at *
  have SF:∀d∈jK,d<4294967296:=fun d hd=>by rw[←acX] at hd;exact LR d (aLv (aLu hd))
  obtain⟨u2,hu2⟩:∃u2,us[i+(n+2)]? = some u2:=⟨_,aKE (by omega)⟩
  obtain⟨u1,hu1⟩:∃u1,us[i+(n+1)]? = some u1:=⟨_,aKE (by omega)⟩
  obtain⟨u0,hu0⟩:∃u0,us[i+n]? = some u0:=⟨_,aKE (by omega)⟩
  have G:Ar 4294967296 jK vs n u2 u1 u0 v1 v0:=⟨by decide,SF,I2,SO,HC,by rw[yR _ (by omega)];exact hu2,by rw[yR _ (by omega)];exact hu1,by rw[yR _ (by omega)];exact hu0,f1,f0,kZ,hsW⟩
  have lu2:=G.avD
  have lu1:=G.akB
  have lv1:=G.aaK
  have qlt:=G.apH
  have Lf:=G.Lf
  have azH:rW (.ref 1 0 0 (n+2) (n+3)) (H3 us ws os)=some (VI ((n+2:Nat):Int)):=eH aBS
  have w1:IntKind.i64.wrap ((i:Int)+((n+2:Nat):Int))=((i+(n+2):Nat):Int):=by rw[←aMI];exact wrapN _ rfl (by omega)
  have w2:IntKind.i64.wrap (((i+(n+2):Nat):Int)-1)=((i+(n+1):Nat):Int):=wrapN _ (by omega) (by omega)
  have e2:bJ 1 (.ref 0 0 0 N N) (VI ((i+(n+2):Nat):Int)) (H3 us ws os)=some (.ptr 0 0 (i+(n+2)) 0):=by rw[bB E6 (by omega),aL5]
  have e1:bJ 1 (.ref 0 0 0 N N) (VI ((i+(n+1):Nat):Int)) (H3 us ws os)=some (.ptr 0 0 (i+(n+1)) 0):=by rw[bB E6 (by omega),aL5]
  have l2:bF false 1 (.ptr 0 0 (i+(n+2)) 0) (H3 us ws os)=some (uV u2):=kB E6 hu2
  have l1:bF false 1 (.ptr 0 0 (i+(n+1)) 0) (H3 us ws os)=some (uV u1):=kB E6 hu1
  have wu2:IntKind.u64.wrap (u2:Int)=(u2:Int):=eR _ (by omega)
  have wu1:IntKind.u64.wrap (u1:Int)=(u1:Int):=eR _ (by omega)
  have ws2:=GQ u2 .u64 lu2
  have wa:IntKind.u64.wrap (((u2*4294967296:Nat):Int)+(u1:Int))=((u2*4294967296+u1:Nat):Int):=by rw[←aMI];exact eR _ (by omega)
  have q1:=Zz (u2*4294967296+u1) v1 (by omega) kZ
  have q2:=Tk (u2*4294967296+u1) v1 kZ
  simp only[qR,k8,k9,k10,Z4,KC,Ce,CS,hz,azH,w1,w2,e1,e2,l1,l2,wu1,wu2,ws2,wa,q1,q2,VX,Nat.reduceEqDiff,Nat.reduceAdd]
  have hh:=aMG (u2*4294967296+u1) v1
  have hml:=aKZ (u2*4294967296+u1) kZ
  have hdl:(u2*4294967296+u1) / v1≤u2*4294967296+u1:=aM4 _ _
  have TS:val 4294967296 jK / val 4294967296 vs≤(u2*4294967296+u1) / v1:=by
   have t1:=(Fy (n:=n+1) (xs:=jK) SF (by omega) (by rw[yR _ (by omega)];exact hu2) (by rw[yR _ (by omega)];exact hu1)).2
   have t2:=(Cp (n:=n+1) I2 HC f1).1
   rw[aM5 kZ]
   have t3:val 4294967296 jK / val 4294967296 vs*(v1*4294967296^(n+1))≤val 4294967296 jK / val 4294967296 vs*val 4294967296 vs:=aMw _ t2
   have t4:=aM6 (val 4294967296 jK) (val 4294967296 vs)
   have t5:val 4294967296 jK / val 4294967296 vs*v1*4294967296^(n+1)<(u2*4294967296+u1+1)*4294967296^(n+1):=by rw[aMN];omega
   have:=aMx t5
   omega
  refine XB (k:=i+(n+2)) G T0 (by omega) (by omega) Fs (by rw[show i+(n+2)-2=i+n by omega];exact hu0) k9 Z4 KC (by rfl) (by rfl) (by rfl) (by rw[aLZ ((u2*4294967296+u1) / v1)];omega) TS (by omega) (by omega) ?_
  intro xA g' hq Oq hgW r17 r8 r9 r10 r11 r12 r13 r14 r15
  have V8:xA 15=VI ((i+(n+2):Nat):Int):=r15
  have r8':xA 8=VI s:=r8.trans k8
  have r9':xA 9 = .ref 0 0 0 N N:=r9.trans k9
  have axA:xA 10 = .ref 1 0 0 (n+2) (n+3):=r10.trans k10
  have awO:xA 11=VK .u64 v1:=r11.trans Z4
  have WW:xA 12=VK .u64 v0:=r12.trans KC
  have Uj:xA 13 = .ref 2 0 0 m m:=r13.trans Ce
  have WA:xA 14=VI i:=r14.trans CS
  have w3:IntKind.i64.wrap (((i+(n+2):Nat):Int)+1)=((i+(n+3):Nat):Int):=wrapN _ (by omega) (by omega)
  have anG:Hf 1 (.ref 0 0 0 N N) (some (VI i)) (some (VI ((i+(n+3):Nat):Int))) none (H3 us ws os)=some (.ref 0 0 i (n+3) (N-i)):=by
   rw[Po E6 (by omega) (by omega),aL5,Nat.add_sub_cancel_left]
  simp only[r8',r9',axA,awO,WW,Uj,WA,V8,r17,w3,anG,VX,Nat.reduceEqDiff,Nat.reduceAdd]
  have xB:g'*val 4294967296 vs≤val 4294967296 jK+val 4294967296 vs:=by
   have:=aKY (val 4294967296 vs) Oq
   rw[aK2,aM7] at this
   have:=aM6 (val 4294967296 jK) (val 4294967296 vs)
   omega
  refine fV rfl ((Ys (pre:=us.take i) (jK:=jK) (post:=us.drop (i+(n+2+1))) (L:=n+3) (o:=i) (by rw[←YR];exact E6) (aBS (us:=us) (ws:=ws) (os:=os)) (by decide) (aK1 _) DL SO (by omega) hws (by omega) (by omega) SF I2 hgW xB).mono ?_)
  rintro r H' ⟨uQ,rfl,Ge,hd',hr⟩
  generalize apV:us.take i++uQ++us.drop (i+(n+2+1))=Ik at *
  have Kj:(H3 us ws os).set 0 (.row 0 (Ik.map uV) 1 true)=H3 Ik ws os:=rfl
  rw[Kj]
  have azB:Ik.length=N:=by rw[←apV,aKI,aKI,DL,Ge,aMY];omega
  have arI:∀d∈Ik,d<4294967296:=fun d hd=>by
   rw[←apV,aLt,aLt] at hd
   rcases hd with(hd | hd) | hd
   ·exact LR d (aLu hd)
   ·exact hd' d hd
   ·exact LR d (aLv hd)
  have Yh:Ik.drop i=uQ++us.drop (i+(n+2+1)):=by rw[←apV,aMj,List.drop_append,aMq (by omega),DL];simp
  have Xj:Ik.take i=us.take i:=by rw[←apV,aMj,aM8 (by omega),aLq (by omega)]
  have Um:val 4294967296 (Ik.drop i)=val 4294967296 uQ:=by rw[Yh,BA,amQ,aMD,aME]
  have digit:∀q:Nat,q=val 4294967296 jK / val 4294967296 vs→val 4294967296 uQ=val 4294967296 jK % val 4294967296 vs →
    val 4294967296 (Ik.drop i)<val 4294967296 vs∧val 4294967296 Ik+4294967296^i*val 4294967296 vs*val 4294967296 ((os.set i q).drop i)=A:=by
   rintro q Xa hse
   have atL:=aKZ (val 4294967296 jK) Lf
   refine⟨by rw[Um,hse];exact atL,?_⟩
   have h1:=aM9 (val 4294967296 jK) (val 4294967296 vs)
   rw[←Xa,←hse,aLZ] at h1
   have h2:=sP (b:=4294967296) us i
   have h3:=sP (b:=4294967296) Ik i
   rw[Xj,DL,Um] at h3
   rw[DL,aiH] at h2
   rw[set_drop (by omega),wG,h3]
   rw[h2,aLY] at hv
   exact Ow h1.symm hv
  have e3:∀d:Nat,bJ 1 (.ref 2 0 0 m m) (VI i) (H3 Ik ws os)=some (.ptr 2 0 i 0)∧bL 0 1 (.ptr 2 0 i 0) (uV d) (H3 Ik ws os)=some (H3 Ik ws (os.set i d)):=fun d=>by
   refine⟨by rw[bB aqI (by omega),aL5],?_⟩
   rw[dQ (f:=uV) (e:=1) aqI (by omega) (aK1 _) rfl rfl]
   rfl
  have wi:IntKind.i64.wrap ((i:Int)-1)=(i:Int)-1:=wrap64 (by omega) (by omega)
  rcases hr with⟨rfl,hr⟩ | ⟨rfl,TT,hr2⟩
  ·have Hj:g'*val 4294967296 vs≤val 4294967296 jK:=by omega
   have Xa:g'=val 4294967296 jK / val 4294967296 vs:=by
    have:=(aM5 Lf).2 Hj
    omega
   have hse:val 4294967296 uQ=val 4294967296 jK % val 4294967296 vs:=by
    have h1:=aM9 (val 4294967296 jK) (val 4294967296 vs)
    rw[←Xa,aLZ] at h1
    omega
   obtain⟨d1,d2⟩:=digit g' Xa hse
   simp only[r8',r9',axA,awO,WW,Uj,WA,V8,r17,(e3 g').1,(e3 g').2,wi,wrap32,aL1 hgW,VX,Nat.reduceEqDiff,Nat.reduceAdd]
   exact⟨(i,Ik,os.set i g'),by simp only;omega,by omega,rfl,azB,arI,by rw[aMv];exact hJ,nW nJ hgW,d1,d2,by (repeat' apply aMd)<;>first | rfl | trivial⟩
  ·have anV:val 4294967296 jK / val 4294967296 vs<g':=(Nat.div_lt_iff_lt_mul Lf).2 TT
   have hg1:1≤g':=aM3 (aK1 _) anV
   obtain⟨q,rfl⟩:∃q,g'=q+1:=⟨g'-1,by omega⟩
   have Xa:q=val 4294967296 jK / val 4294967296 vs:=by omega
   have hse:val 4294967296 uQ=val 4294967296 jK % val 4294967296 vs:=by
    have h1:=aM9 (val 4294967296 jK) (val 4294967296 vs)
    rw[←Xa,aLZ] at h1
    rw[aK2,aM7] at hr2
    omega
   have wq:IntKind.u64.wrap (((q+1:Nat):Int)-1)=(q:Int):=by rw[show ((q+1:Nat):Int)-1=(q:Int) by omega];exact eR _ (by omega)
   obtain⟨d1,d2⟩:=digit q Xa hse
   simp only[r8',r9',axA,awO,WW,Uj,WA,V8,r17,wq,(e3 q).1,(e3 q).2,wi,wrap32,aL1 (show q<4294967296 by omega),VX,Nat.reduceEqDiff,Nat.reduceAdd]
   exact⟨(i,Ik,os.set i q),by simp only;omega,by omega,rfl,azB,arI,by rw[aMv];exact hJ,nW nJ (by omega),d1,d2,by (repeat' apply aMd)<;>first | rfl | trivial⟩
 ·have Xm:j=0:=by omega
  subst Xm
  rw[aLJ] at bH
  rw[Nat.pow_zero,aM7,aLJ] at hv
  simp only[qR,k8,k9,k10,Z4,KC,Ce,CS,hz,VX,Nat.reduceEqDiff,Nat.reduceAdd]
  exact hQ _ us os k8 k9 Ce T0 LR hJ nJ hv bH
end Go.PM
namespace Go.PM
theorem Oj {a n:Nat} (hn:(aD 4294967296 a).length=n+1):∃d,(aD 4294967296 a)[n]? = some d∧d≠0∧d<4294967296:=by
 obtain⟨d,hd⟩:∃d,(aD 4294967296 a)[n]? = some d:=⟨_,aKE (by omega)⟩
 refine⟨d,hd,fun h0 => ?_,gI (by decide) a d (aLr hd)⟩
 have:=RD (b:=4294967296) (by decide) a
 rw[List.getLast?_eq_getElem?,hn,Nat.add_sub_cancel,hd,h0] at this
 exact this rfl
theorem UE {a d:Nat} (h:aD 4294967296 a=[d]):a=d∧0<d∧d<4294967296:=by
 have h1:=cL (b:=4294967296) (by decide) a
 rw[h,val_one] at h1
 obtain⟨e,h2,h3,h4⟩:=Oj (a:=a) (n:=0) (by rw[h];rfl)
 rw[h] at h2
 cases h2
 exact⟨h1.symm,by omega,h4⟩
theorem BE (a b:Nat) (hb:b≠0) (ha:(aD 4294967296 a).length≤17592186044416) (zB:(aD 4294967296 b).length≤17592186044416):TC 183 [bR a,bR b] (.eG [bR (a / b),bR (a % b)]):=by
 refine TC.walk ⟨true,false⟩ KF rfl (aMl rfl) (by simp[aO,bU]) (by simp[gZ,sK,tQ]) ?_
 have c1:=lS a b ha zB
 by_cases IS:gC a b<0
 ·have bH:a<b:=by
   unfold gC at IS
   split at IS
   ·assumption
   ·split at IS<;>omega
  simp only[vW,sI,c1,IS,VX,Nat.reduceEqDiff,Nat.reduceAdd]
  rw[aL4 bH,aL1 bH]
  exact bN (d:=6) AI (aN (bU a))
 have Hj:b≤a:=by
  unfold gC at IS
  split at IS
  ·omega
  ·omega
 have hbn:(aD 4294967296 b).length≠0:=fun h=>hb ((nR (b:=4294967296) (by decide)).1 (List.length_eq_zero_iff.1 h))
 by_cases h1:(((aD 4294967296 b).length:Nat):Int)=1
 ·obtain⟨d,hd⟩:∃d,aD 4294967296 b=[d]:=by
   match hx:aD 4294967296 b with
   | []=>rw[hx] at hbn;exact absurd rfl hbn
   | [d]=>exact⟨d,rfl⟩
   | _::_::_=>rw[hx] at h1;simp at h1;omega
  obtain⟨rfl,F9,hdW⟩:=UE hd
  have c2:=As a b F9 hdW ha
  have e0:rW (bR b) []=some (VI 1):=by rw[bR,C0,eQ,hd];rfl
  have e1:bJ 1 (bR b) (VI 0) []=some (.cI (uV b) 0):=by
   rw[bR,hd]
   exact aH (f:=uV) (t := .op) (H:=[]) (size:=1) (k := .i64) (xs:=[b]) (i:=0) rfl rfl
  have e2:=iX (H:=[]) (z:=[.int .u32 0]) (v:=uV (a % b)) rfl rfl rfl
  have e3:=aiX (size:=1) (v:=Value.int .u32 ((b:Nat):Int))
  simp only[vW,sI,c1,IS,e0,e1,c2,e2,VX,Nat.reduceEqDiff,Nat.reduceAdd]
  refine OK (ds:=[a % b]) (t := .cl 1) (fun d hd => ?_) (by show 1≤70368744177664;decide) (val_one _) fun t' ht => ?_
  ·rw[List.mem_singleton] at hd
   subst hd
   exact aKz (aKZ _ F9) (aLe hdW)
  ·simp only[VX,Nat.reduceEqDiff,Nat.reduceAdd]
   exact bN (d:=6) (aN (bU _)) (agR (d:=5) ht)
 obtain⟨n,hn⟩:∃n,(aD 4294967296 b).length=n+2:=⟨(aD 4294967296 b).length-2,by omega⟩
 obtain⟨t,ht,ht0,htW⟩:=Oj (a:=b) (n:=n+1) hn
 obtain⟨s,hs,cl,anK⟩:=Yv ht0 htW
 have hS:0<2^s:=Nat.pow_pos (by decide)
 have hSW:2^s*2^(32-s)=4294967296:=by rw[←Nat.pow_add,show s+(32-s)=32 by omega]
 have hla:=eZ (b:=4294967296) (by decide) Hj
 have e0:rW (bR b) []=some (VI ((n+2:Nat):Int)):=by rw[bR,C0,eQ,hn]
 have w0:IntKind.i64.wrap (((n+2:Nat):Int)-1)=((n+1:Nat):Int):=wrapN _ (by omega) (by omega)
 have h1':¬(((n+2:Nat):Int)=1):=by omega
 have e1:bJ 1 (bR b) (VI ((n+1:Nat):Int)) []=some (.cI (uV t) 0):=aH (f:=uV) (t := .op) (H:=[]) (size:=1) (k := .i64) ht rfl
 simp only[vW,sI,c1,IS,e0,h1',w0,e1,cl,VX,Nat.reduceEqDiff,Nat.reduceAdd]
 have fa:[bR a,VI (s:Int)].mapM (fz depth ([]:aA))=some [bR a,VI (s:Int)]:=fz2 (aL (bU a)) (aL rfl)
 refine FC.call (BC a s hs ha) rfl fa ?_
 rintro r L ⟨Lc,rfl,rfl,hAl,hAd,hAv,hAt⟩
 simp only[VX,Nat.reduceEqDiff,Nat.reduceAdd]
 have fb:∀H:aA,[bR b,VI (s:Int)].mapM (fz depth H)=some [bR b,VI (s:Int)]:=fun H=>fz2 (aL (bU b)) (aL rfl)
 refine FC.call (BC b s hs zB) rfl (fb _) ?_
 rintro r L ⟨G7,rfl,rfl,hBl,hBd,hBv,hBt⟩
 rw[hn] at hBl
 simp only[hn,List.length_singleton,VX,Nat.reduceEqDiff,Nat.reduceAdd]
 have avW:b*2^s<4294967296^(n+2):=by
  have h2:=(Cp (n:=n+1) (gI (b:=4294967296) (by decide) b) hn ht).2
  rw[cL (by decide)] at h2
  have h3:b*2^s<(t+1)*4294967296^(n+1)*2^s:=aM2 h2 hS
  have h4:(t+1)*4294967296^(n+1)*2^s=(t+1)*2^s*4294967296^(n+1):=by grind
  have h5:(t+1)*2^s≤4294967296:=by
   have h6:t*2^s<2^(32-s)*2^s:=by rw[aLZ (2^(32-s)),hSW];exact anK
   have h7:=aMx h6
   have h8:(t+1)*2^s≤2^(32-s)*2^s:=aKY _ h7
   rwa [aLZ (2^(32-s)),hSW] at h8
  have h9:(t+1)*2^s*4294967296^(n+1)≤4294967296*4294967296^(n+1):=aKY _ h5
  have h10:4294967296*4294967296^(n+1)=4294967296^(n+2):=by rw[aLY 4294967296 (n+1)];exact aLZ _ _
  omega
 have hVl:(aD 4294967296 (b*2^s)).length=n+2:=by
  have h2:=oJ (b:=4294967296) (by decide) avW
  have h3:b≤b*2^s:=Nat.le_mul_of_pos_right b hS
  have h4:=eZ (b:=4294967296) (by decide) h3
  omega
 refine vC (rows:=G7) (m:=b*2^s) (by rfl) (by omega) (by omega) (by omega) (fun d hd=>hBd d (aLu hd)) (by rw[aLq (by omega)];exact hBv) fun k hk he => ?_
 have Yj:k=n+2:=by
  have:=congrArg List.length he
  rw[hVl,aL6] at this
  omega
 subst Yj
 generalize TX:aD 4294967296 (b*2^s)=vs at *
 have I2:∀d∈vs,d<4294967296:=by rw[←TX];exact gI (by decide) _
 have Qf:val 4294967296 vs=b*2^s:=by rw[←TX];exact cL (by decide) _
 obtain⟨v1,f1⟩:∃v1,vs[n+1]? = some v1:=⟨_,aKE (by omega)⟩
 obtain⟨v0,f0⟩:∃v0,vs[n]? = some v0:=⟨_,aKE (by omega)⟩
 have hv1:1≤v1:=by
  obtain⟨d,hd,F9,_⟩:=Oj (a:=b*2^s) (n:=n+1) (by rw[TX];exact hVl)
  rw[TX,f1] at hd
  cases hd
  omega
 have b1:G7[n+1]? = some v1:=by rw[←f1,←he,aKU (by omega)]
 have b0:G7[n]? = some v0:=by rw[←f0,←he,aKU (by omega)]
 have lv1:=I2 v1 (aLr f1)
 have lv0:=I2 v0 (aLr f0)
 have x1:bJ 1 (.ref 1 0 0 (n+2) (n+2+1)) (VI ((n+1:Nat):Int)) [.row 0 (Lc.map uV) 1 true,.row 0 (G7.map uV) 1 true]=some (.ptr 1 0 (n+1) 0):=by rw[bB (by rfl) (by omega),aL5]
 have x0:bJ 1 (.ref 1 0 0 (n+2) (n+2+1)) (VI ((n:Nat):Int)) [.row 0 (Lc.map uV) 1 true,.row 0 (G7.map uV) 1 true]=some (.ptr 1 0 n 0):=by rw[bB (by rfl) (by omega),aL5]
 have y1:bF false 1 (.ptr 1 0 (n+1) 0) [.row 0 (Lc.map uV) 1 true,.row 0 (G7.map uV) 1 true]=some (uV v1):=kB (rows:=G7) (g:=0) (w:=true) (by rfl) b1
 have y0:bF false 1 (.ptr 1 0 n 0) [.row 0 (Lc.map uV) 1 true,.row 0 (G7.map uV) 1 true]=some (uV v0):=kB (rows:=G7) (g:=0) (w:=true) (by rfl) b0
 have z0:rW (.ref 1 0 0 (n+2) (n+2+1)) [.row 0 (Lc.map uV) 1 true,.row 0 (G7.map uV) 1 true]=some (VI ((n+2:Nat):Int)):=eH (r:=(G7.map uV,1,true)) (by rfl)
 have z1:rW (.ref 0 0 0 ((aD 4294967296 a).length+1) ((aD 4294967296 a).length+1)) [.row 0 (Lc.map uV) 1 true,.row 0 (G7.map uV) 1 true]=some (VI (((aD 4294967296 a).length+1:Nat):Int)):=eH (r:=(Lc.map uV,1,true)) (by rfl)
 have w2:IntKind.i64.wrap (((n+2:Nat):Int)-2)=((n:Nat):Int):=wrapN _ (by omega) (by omega)
 have wv1:IntKind.u64.wrap (v1:Int)=(v1:Int):=eR _ (by omega)
 have wv0:IntKind.u64.wrap (v0:Int)=(v0:Int):=eR _ (by omega)
 obtain⟨m,hm⟩:∃m,m+(n+2)=(aD 4294967296 a).length+1:=⟨(aD 4294967296 a).length+1-(n+2),by omega⟩
 have wm:IntKind.i64.wrap ((((aD 4294967296 a).length+1:Nat):Int)-((n+2:Nat):Int))=(m:Int):=wrapN _ (by omega) (by omega)
 have wm1:IntKind.i64.wrap ((m:Int)-1)=(m:Int)-1:=wrap64 (by omega) (by omega)
 have mk:=aaE m 0 (by omega) (H:=[.row 0 (Lc.map uV) 1 true,.row 0 (G7.map uV) 1 true])
 have z2:rW (.ref 2 0 0 m m) (H3 Lc G7 (aLn m 0))=some (VI m):=eH (r:=((aLn m 0).map uV,1,true)) (by rfl)
 simp only[w0,x1,x0,y1,y0,z0,z1,w2,wv1,wv0,wm,mk,z2,wm1,List.length_cons,List.length_nil,VX,Nat.reduceEqDiff,Nat.reduceAdd]
 have ET:val 4294967296 (Lc.drop m)<val 4294967296 vs:=by
  obtain⟨d,hd⟩:∃d,Lc[(aD 4294967296 a).length]? = some d:=⟨_,aKE (by omega)⟩
  have h2:=(Cp (b:=4294967296) (xs:=Lc.drop m) (n:=n+1) (t:=d) (fun x hx=>hAd x (aLv hx)) (by rw[aMY];omega) (by rw[aKv,show m+(n+1)=(aD 4294967296 a).length by omega];exact hd)).2
  have h3:=hAt d hd
  have h4:=(Cp (n:=n+1) (gI (b:=4294967296) (by decide) b) hn ht).1
  rw[cL (by decide)] at h4
  have h5:(d+1)*4294967296^(n+1)≤2^s*4294967296^(n+1):=aKY _ h3
  have h6:1*4294967296^(n+1)≤t*4294967296^(n+1):=aKY _ (by omega)
  have h7:1*4294967296^(n+1)*2^s≤b*2^s:=aKY _ (by omega)
  rw[Qf]
  rw[aM7,aLZ] at h7
  omega
 refine aiG (Hk:=Lc) (ws:=G7) (os0:=aLn m 0) (vs:=vs) (N:=(aD 4294967296 a).length+1) (m:=m) (n:=n) (A:=a*2^s) (s:=s) hAl hm (by omega) hAd he hBl hVl I2 f1 f0 hv1 hAv ET (by simp) (CP (by decide) _) (by rfl) (by rfl) (by rfl) (by rfl) (by rfl) (by rfl) (by rfl) ?_
 intro AN us os r8 r9 r13 T0 LR hJ nJ hv bH
 rw[Qf] at hv bH
 have hq:val 4294967296 os=a / b:=by
  rw[←Nat.mul_div_mul_right a b hS,←hv,aMZ _ _ (by omega),aL4 bH,aL5]
 have hr:val 4294967296 us=a % b*2^s:=by
  rw[←Nat.mul_mod_mul_right,←hv,aM0,aL1 bH]
 simp only[r9,VX,Nat.reduceEqDiff,Nat.reduceAdd]
 refine vC (rows:=us) (m:=a % b*2^s) E6 (by omega) (aKx _) (by omega) (fun d hd=>LR d (aLu hd)) (by rw[aLq (by omega)];exact hr) fun k hk he2 => ?_
 have z3:rW (.ref 0 0 0 k ((aD 4294967296 a).length+1)) (H3 us G7 os)=some (VI k):=eH E6
 simp only[z3,VX,Nat.reduceEqDiff,Nat.reduceAdd]
 refine adC (us:=us) (k:=k) (N:=(aD 4294967296 a).length+1) (s:=s) (w0:=2^(32-s)) hs hSW T0 hk (by omega) LR r8 (by rfl) (by rfl) (by rfl) ?_
 intro tC Ik q9 q13 azB arI hv'
 have aEf:tC 13 = .ref 2 0 0 m m:=q13.trans r13
 have FF:val 4294967296 (Ik.take k)=a % b:=by
  rw[hv',he2,cL (by decide),Nat.mul_div_cancel _ hS]
 simp only[q9,aEf,VX,Nat.reduceEqDiff,Nat.reduceAdd]
 refine vC (rows:=os) (m:=a / b) aqI (by omega) (aKx _) (by omega) (fun d hd=>nJ d (aLu hd)) (by rw[aLq (by omega)];exact hq) fun k2 Yj he3 => ?_
 simp only[q9,VX,Nat.reduceEqDiff,Nat.reduceAdd]
 refine vC (rows:=Ik) (m:=a % b) E6 (by omega) hk (by omega) (fun d hd=>arI d (aLu hd)) FF fun k3 hk3 he4 => ?_
 simp only[VX,Nat.reduceEqDiff,Nat.reduceAdd]
 exact bN (d:=6) (Nr (d:=5) aqI (by omega) Yj he3) (Nr (d:=5) E6 (by omega) (by omega) he4)
end Go.PM
namespace Go.PM
abbrev H2 (us os:List Nat):aA:=[.row 0 (us.map tV) 1 true,.row 0 (os.map tV) 1 true]
theorem Xv {us os:List Nat}:aG (H2 us os) 0 0=some (us.map tV,1,true):=rfl
theorem aBd {us os:List Nat}:aG (H2 us os) 1 0=some (os.map tV,1,true):=rfl
theorem arR {P a Z:Nat} {y:Int} (h:(a:Int)+(P:Int)*y=(Z:Int)) (ha:a<P) (hZ:Z<P):y=0∧a=Z:=by
 have hy:y=0:=by
  rcases Int.lt_trichotomy y 0 with h1 | h1 | h1
  ·have:(P:Int)*y≤(P:Int)*(-1):=aNa (by omega) (by omega)
   omega
  ·exact h1
  ·have:(P:Int)*1≤(P:Int)*y:=aNa (by omega) (by omega)
   omega
 subst hy
 rw[Int.mul_zero] at h
 exact⟨rfl,by omega⟩
theorem Yo {us:List Nat} {i n N V:Nat} (hN:us.length=N) (bW:i+n<N) (hd:∀d∈us,d<1000000000) (hV:V<1000000000^n) (ET:val 1000000000 (us.drop (i+1))<V) :
  us=us.take i++(us.drop i).take (n+1)++us.drop (i+(n+1))∧(us.take i).length=i∧((us.drop i).take (n+1)).length=n+1∧val 1000000000 ((us.drop i).take (n+1))<1000000000*V∧val 1000000000 (us.drop i)=val 1000000000 ((us.drop i).take (n+1))∧val 1000000000 (us.drop (i+(n+1)))=0∧∀j,j<n+1→((us.drop i).take (n+1))[j]? = us[i+j]? := by
 obtain⟨x,hx⟩:∃x,us[i]? = some x:=⟨_,aKE (by omega)⟩
 have lx:=hd x (aLr hx)
 have h1:=vK (b:=1000000000) hx
 have h2:val 1000000000 (us.drop i)<1000000000*V:=by
  have:1000000000*(val 1000000000 (us.drop (i+1))+1)≤1000000000*V:=aMw _ ET
  omega
 have h3:=sP (b:=1000000000) (us.drop i) (n+1)
 have h4:((us.drop i).take (n+1)).length=n+1:=by rw[aL6,aMY];omega
 rw[h4,aLx] at h3
 have h5:val 1000000000 (us.drop (i+(n+1)))=0:=by
  rcases Nat.eq_zero_or_pos (val 1000000000 (us.drop (i+(n+1)))) with h | h
  ·exact h
  ·have h6:1000000000^(n+1)*1≤1000000000^(n+1)*val 1000000000 (us.drop (i+(n+1))):=aMw _ h
   have h7:1000000000*V≤1000000000^(n+1):=by rw[aLY,aLZ];exact aKY _ (by omega)
   omega
 rw[h5,aMD,aME] at h3
 refine⟨?_,by rw[aL6];omega,h4,by omega,h3,h5,fun j hj => ?_⟩
 ·rw[aMj,←aLx,aLG,aLG]
 ·rw[aKU hj,aKv]
theorem leT {g:Nat} (h:(1000000000:Int)≤(g:Int)):1000000000≤g:=by omega
theorem ajR {g:Nat} (h:¬(1000000000:Int)≤(g:Int)):g<1000000000:=by omega
theorem ltC {a b:Nat} (h:(a:Int)<(b:Int)):a<b:=by omega
theorem aEs {a b:Nat} (h:¬(a:Int)<(b:Int)):b≤a:=by omega
theorem Rs {a:Nat} (h:a*1000000000≤9223372036854775807):IntKind.i64.wrap ((a:Int)*1000000000)=((a*1000000000:Nat):Int):=wrapN _ (by omega) h
theorem Rn {a b:Nat} (h:a+b≤9223372036854775807):IntKind.i64.wrap ((a:Int)+(b:Int))=((a+b:Nat):Int):=wrapN _ (by omega) h
theorem acM {a b:Nat} (h:a*b≤9223372036854775807):IntKind.i64.wrap ((a:Int)*(b:Int))=((a*b:Nat):Int):=wrapN _ (by simp) h
theorem x17 {a:Nat} (h:a<1000000000):a*1000000000≤9223372036854775807:=by omega
theorem x18 {a b:Nat} (h:a<1000000000) (hb:b<1000000000):a*1000000000+b≤1000000000000000000:=by omega
theorem VY {jK vs us os:List Nat} {n u2 u1 u0 v1 v0 N i g left:Nat} (G:Ar 1000000000 jK vs n u2 u1 u0 v1 v0) {ρ:cV} {Q:VQ} (hN:us.length=N) (hiN:i+(n+2)<N) (Fs:N≤70368744177664) (hu0:us[i+n]? = some u0)
  (g13:ρ 13 = .ref 0 0 0 N N) (g14:ρ 14=jG vs) (g15:ρ 15=VI ((n+2:Nat):Int)) (g17:ρ 17=VI i) (g19:ρ 19=VI g) (g20:ρ 20=VI left) (hh:u2*1000000000+u1=g*v1+left) (hq:val 1000000000 jK / val 1000000000 vs≤g) (hl:left<1000000000) (hgb:g≤1000000000000000000)
  (hQ:∀(aQ:cV) (g':Nat),val 1000000000 jK / val 1000000000 vs≤g'→g'≤val 1000000000 jK / val 1000000000 vs+1→g'<1000000000→aQ 19=VI g'→aQ 12=ρ 12→aQ 13=ρ 13→aQ 14=ρ 14→aQ 15=ρ 15→aQ 16=ρ 16→aQ 17=ρ 17→Q (.exit 2) aQ (H2 us os)) :
  VW ⟨true,false⟩ 0 (.loop iB) Q ρ (H2 us os):=by
 have lv1:=G.aaK
 have lv0:=G.aiD
 have lu0:=G.avA
 have qlt:=G.apH
 have kZ:=G.pos
 have HC:=G.Oh
 refine aP (fun(t:Nat×Nat) aQ H=>H=H2 us os∧u2*1000000000+u1=t.1*v1+t.2∧val 1000000000 jK / val 1000000000 vs≤t.1∧t.2<1000000000∧t.1≤1000000000000000000 ∧
  aQ 13 = .ref 0 0 0 N N∧aQ 14=jG vs∧aQ 15=VI ((n+2:Nat):Int)∧aQ 17=VI i∧aQ 19=VI t.1∧aQ 20=VI t.2∧aQ 12=ρ 12∧aQ 16=ρ 16) (fun t=>1000000000-t.2) (g,left) ⟨rfl,hh,hq,hl,hgb,g13,g14,g15,g17,g19,g20,rfl,rfl⟩ ?_
 rintro⟨g,left⟩ tC H ⟨rfl,hh,hq,hl,hgb,Ce,CS,Nw,IH,k19,k20,KC,k16⟩
 simp only at hh hq hl hgb k19 k20
 have f1:bJ 1 (jG vs) (VI ((n+1:Nat):Int)) (H2 us os)=some (.cI (tV v1) 0):=aH (f:=tV) (t := .op) (size:=1) (k := .i64) G.f1 rfl
 have f0:bJ 1 (jG vs) (VI (n:Int)) (H2 us os)=some (.cI (tV v0) 0):=aH (f:=tV) (t := .op) (size:=1) (k := .i64) G.f0 rfl
 have wn2:IntKind.i64.wrap (((n+2:Nat):Int)-2)=(n:Int):=wrapN _ (by omega) (by omega)
 have wn1:IntKind.i64.wrap (((n+2:Nat):Int)-1)=((n+1:Nat):Int):=wrapN _ (by omega) (by omega)
 have wi:IntKind.i64.wrap ((i:Int)+((n+2:Nat):Int))=((i+(n+2):Nat):Int):=wrapN _ (by omega) (by omega)
 have wi2:IntKind.i64.wrap (((i+(n+2):Nat):Int)-2)=((i+n:Nat):Int):=wrapN _ (by omega) (by omega)
 have e1:bJ 1 (.ref 0 0 0 N N) (VI ((i+n:Nat):Int)) (H2 us os)=some (.ptr 0 0 (i+n) 0):=by rw[bB Xv (by omega),aL5]
 have e2:bF false 1 (.ptr 0 0 (i+n) 0) (H2 us os)=some (VI (u0:Int)):=Oe Xv hu0
 have wl:IntKind.i64.wrap ((left:Int)+(v1:Int))=((left+v1:Nat):Int):=wrapN _ (by omega) (by omega)
 have down:val 1000000000 jK / val 1000000000 vs<g→∃g',g=g'+1∧IntKind.i64.wrap ((g:Int)-1)=(g':Int)∧u2*1000000000+u1=g'*v1+(left+v1)∧val 1000000000 jK / val 1000000000 vs≤g':=by
  intro h
  have hg1:1≤g:=aM3 (aK1 _) h
  obtain⟨g',rfl⟩:∃g',g=g'+1:=⟨g-1,by omega⟩
  refine⟨g',rfl,wrapN _ (by omega) (by omega),?_,by omega⟩
  rw[hh,aK2]
  omega
 have hmu:∀g':Nat,left+v1<1000000000→1000000000-(g',left+v1).2<1000000000-(g,left).2:=fun g' h=>by
  show 1000000000-(left+v1)<1000000000-left
  omega
 have hle:∀g':Nat,g=g'+1→g'≤1000000000000000000:=fun g' h=>by
  omega
 have aDY:left*1000000000+u0≤9223372036854775807:=aKy (x18 hl lu0) (by decide)
 have aFp:left*1000000000≤9223372036854775807:=x17 hl
 have ws:IntKind.i64.wrap ((left:Int)*1000000000)=((left*1000000000:Nat):Int):=Rs aFp
 have wa:IntKind.i64.wrap (((left*1000000000:Nat):Int)+(u0:Int))=((left*1000000000+u0:Nat):Int):=Rn aDY
 obtain⟨s13,s14,s15,s17⟩:tC 13=ρ 13∧tC 14=ρ 14∧tC 15=ρ 15∧tC 17=ρ 17:=⟨by rw[Ce,g13],by rw[CS,g14],by rw[Nw,g15],by rw[IH,g17]⟩
 by_cases hA:(1000000000:Int)≤(g:Int)
 ·have hA':=leT hA
  obtain⟨g',hg',wg,YL,Oq⟩:=down (aKz qlt hA')
  by_cases hB:(1000000000:Int)≤((left+v1:Nat):Int)
  ·obtain⟨c1,c2⟩:=G.broken YL (leT hB)
   simp only[iB,Ce,CS,Nw,IH,k19,k20,hA,hB,f1,wn1,wg,wl,VX,Nat.reduceEqDiff,Nat.reduceAdd]
   exact hQ _ g' Oq (G.abN YL (aLe c1) c2) c1 rfl KC s13 s14 s15 k16 s17
  ·simp only[iB,Ce,CS,Nw,IH,k19,k20,hA,hB,f1,wn1,wg,wl,VX,Nat.reduceEqDiff,Nat.reduceAdd]
   refine⟨(g',left+v1),hmu g' (ajR hB),YL,Oq,ajR hB,hle g' hg',?_⟩
   exact⟨rfl,rfl,KC,k16⟩
 ·have hA':=ajR hA
  have hgv:g*v0≤999999999*999999999:=aMQ (Nat.le_of_lt_succ hA') (Nat.le_of_lt_succ lv0)
  have wm:IntKind.i64.wrap ((g:Int)*(v0:Int))=((g*v0:Nat):Int):=acM (aKy hgv (by decide))
  by_cases hT:((left*1000000000+u0:Nat):Int)<((g*v0:Nat):Int)
  ·obtain⟨g',hg',wg,YL,Oq⟩:=down (G.too hh (ltC hT))
   by_cases hB:(1000000000:Int)≤((left+v1:Nat):Int)
   ·obtain⟨c1,c2⟩:=G.broken YL (leT hB)
    simp only[iB,Ce,CS,Nw,IH,k19,k20,hA,hB,hT,f1,f0,e1,e2,wn1,wn2,wi,wi2,ws,wa,wm,wg,wl,VX,Nat.reduceEqDiff,Nat.reduceAdd]
    exact hQ _ g' Oq (G.abN YL (aLe c1) c2) c1 rfl KC s13 s14 s15 k16 s17
   ·simp only[iB,Ce,CS,Nw,IH,k19,k20,hA,hB,hT,f1,f0,e1,e2,wn1,wn2,wi,wi2,ws,wa,wm,wg,wl,VX,Nat.reduceEqDiff,Nat.reduceAdd]
    refine⟨(g',left+v1),hmu g' (ajR hB),YL,Oq,ajR hB,hle g' hg',?_⟩
    exact⟨rfl,rfl,KC,k16⟩
  ·simp only[iB,Ce,CS,Nw,IH,k19,k20,hA,hT,f0,e1,e2,wn2,wi,wi2,ws,wa,wm,VX,Nat.reduceEqDiff,Nat.reduceAdd]
   exact hQ _ g hq (G.abN hh (aLe hA') (aEs hT)) hA' k19 KC s13 s14 s15 k16 s17
theorem QL {Hk os0 vs:List Nat} {N m n v1 v0 A s:Nat} {ρ:cV} {Q:VQ} (hN:Hk.length=N) (hm:m+(n+2)=N) (Fs:N≤70368744177664) (LR:∀d∈Hk,d<1000000000) (HC:vs.length=n+2) (I2:∀d∈vs,d<1000000000) (f1:vs[n+1]? = some v1) (f0:vs[n]? = some v0) (kZ:1≤v1)
  (hA:val 1000000000 Hk=A) (ET:val 1000000000 (Hk.drop m)<val 1000000000 vs) (hJ:os0.length=m) (nJ:∀d∈os0,d<1000000000)
  (g12:ρ 12=VI s) (g13:ρ 13 = .ref 0 0 0 N N) (g14:ρ 14=jG vs) (g15:ρ 15=VI ((n+2:Nat):Int)) (g16:ρ 16 = .ref 1 0 0 m m) (g17:ρ 17=VI ((m:Int)-1))
  (hQ:∀(aQ:cV) (us os:List Nat),aQ 12=VI s→aQ 13 = .ref 0 0 0 N N→aQ 16 = .ref 1 0 0 m m→us.length=N→(∀d∈us,d<1000000000)→os.length=m→(∀d∈os,d<1000000000)→val 1000000000 us+val 1000000000 vs*val 1000000000 os=A→val 1000000000 us<val 1000000000 vs→Q (.exit 0) aQ (H2 us os)) :
  VW ⟨true,false⟩ 0 (.loop kE) Q ρ (H2 Hk os0):=by
 have hVb:=rO I2
 rw[HC] at hVb
 refine aP (fun(t:Nat×List Nat×List Nat) aQ H=>t.1≤m∧H=H2 t.2.1 t.2.2∧t.2.1.length=N∧(∀d∈t.2.1,d<1000000000)∧t.2.2.length=m∧(∀d∈t.2.2,d<1000000000)∧val 1000000000 (t.2.1.drop t.1)<val 1000000000 vs∧val 1000000000 t.2.1+1000000000^t.1*val 1000000000 vs*val 1000000000 (t.2.2.drop t.1)=A ∧
  aQ 12=VI s∧aQ 13 = .ref 0 0 0 N N∧aQ 14=jG vs∧aQ 15=VI ((n+2:Nat):Int)∧aQ 16 = .ref 1 0 0 m m∧aQ 17=VI ((t.1:Int)-1)) (fun t=>t.1) (m,Hk,os0) ⟨aKx _,rfl,hN,LR,hJ,nJ,ET,by rw[aMq (by simp only;omega)];simpa[val] using hA,g12,g13,g14,g15,g16,g17⟩ ?_
 rintro⟨j,us,os⟩ tC H ⟨hj,rfl,T0,LR,hJ,nJ,bH,hv,KC,Ce,CS,Nw,k16,IH⟩
 simp only at hj T0 LR hJ nJ bH hv IH
 by_cases hz:(0:Int)≤(j:Int)-1
 ·obtain⟨i,rfl⟩:∃i,j=i+1:=⟨j-1,by omega⟩
  have Ev:((i+1:Nat):Int)-1=(i:Int):=by omega
  rw[Ev] at IH hz
  obtain⟨YR,DL,SO,hsW,aiH,amQ,yR⟩:=Yo (n:=n+2) T0 (by omega) LR hVb bH
  generalize acX:(us.drop i).take (n+2+1)=jK at *
  have SF:∀d∈jK,d<1000000000:=fun d hd=>by rw[←acX] at hd;exact LR d (aLv (aLu hd))
  obtain⟨u2,hu2⟩:∃u2,us[i+(n+2)]? = some u2:=⟨_,aKE (by omega)⟩
  obtain⟨u1,hu1⟩:∃u1,us[i+(n+1)]? = some u1:=⟨_,aKE (by omega)⟩
  obtain⟨u0,hu0⟩:∃u0,us[i+n]? = some u0:=⟨_,aKE (by omega)⟩
  have G:Ar 1000000000 jK vs n u2 u1 u0 v1 v0:=⟨by decide,SF,I2,SO,HC,by rw[yR _ (by omega)];exact hu2,by rw[yR _ (by omega)];exact hu1,by rw[yR _ (by omega)];exact hu0,f1,f0,kZ,hsW⟩
  have lu2:=G.avD
  have lu1:=G.akB
  have lv1:=G.aaK
  have qlt:=G.apH
  have Lf:=G.Lf
  have w1:IntKind.i64.wrap ((i:Int)+((n+2:Nat):Int))=((i+(n+2):Nat):Int):=wrapN _ (by omega) (by omega)
  have w2:IntKind.i64.wrap (((i+(n+2):Nat):Int)-1)=((i+(n+1):Nat):Int):=wrapN _ (by omega) (by omega)
  have wn1:IntKind.i64.wrap (((n+2:Nat):Int)-1)=((n+1:Nat):Int):=wrapN _ (by omega) (by omega)
  have ev1:bJ 1 (jG vs) (VI ((n+1:Nat):Int)) (H2 us os)=some (.cI (tV v1) 0):=aH (f:=tV) (t := .op) (size:=1) (k := .i64) f1 rfl
  have e2:bJ 1 (.ref 0 0 0 N N) (VI ((i+(n+2):Nat):Int)) (H2 us os)=some (.ptr 0 0 (i+(n+2)) 0):=by rw[bB Xv (by omega),aL5]
  have e1:bJ 1 (.ref 0 0 0 N N) (VI ((i+(n+1):Nat):Int)) (H2 us os)=some (.ptr 0 0 (i+(n+1)) 0):=by rw[bB Xv (by omega),aL5]
  have l2:bF false 1 (.ptr 0 0 (i+(n+2)) 0) (H2 us os)=some (VI (u2:Int)):=Oe Xv hu2
  have l1:bF false 1 (.ptr 0 0 (i+(n+1)) 0) (H2 us os)=some (VI (u1:Int)):=Oe Xv hu1
  have aDL:u2*1000000000+u1≤1000000000000000000:=x18 lu2 lu1
  have aDk:u2*1000000000≤9223372036854775807:=x17 lu2
  have aA8:u2*1000000000+u1≤9223372036854775807:=aKy aDL (by decide)
  have ws2:IntKind.i64.wrap ((u2:Int)*1000000000)=((u2*1000000000:Nat):Int):=Rs aDk
  have wa:IntKind.i64.wrap (((u2*1000000000:Nat):Int)+(u1:Int))=((u2*1000000000+u1:Nat):Int):=Rn aA8
  have q1:=NM (u2*1000000000+u1) v1 aA8 kZ
  have q2:=OD (u2*1000000000+u1) v1 kZ
  simp only[kE,KC,Ce,CS,Nw,k16,IH,hz,w1,w2,wn1,ev1,e1,e2,l1,l2,ws2,wa,q1,q2,VX,Nat.reduceEqDiff,Nat.reduceAdd]
  clear ws2 wa q1 q2 e1 e2 l1 l2 ev1 w1 w2 wn1
  have hh:=aMG (u2*1000000000+u1) v1
  have hml:=aKZ (u2*1000000000+u1) kZ
  have hdl:(u2*1000000000+u1) / v1≤u2*1000000000+u1:=aM4 _ _
  have TS:val 1000000000 jK / val 1000000000 vs≤(u2*1000000000+u1) / v1:=by
   have t1:=(Fy (n:=n+1) (xs:=jK) SF (by omega) (by rw[yR _ (by omega)];exact hu2) (by rw[yR _ (by omega)];exact hu1)).2
   have t2:=(Cp (n:=n+1) I2 HC f1).1
   rw[aM5 kZ]
   have t3:val 1000000000 jK / val 1000000000 vs*(v1*1000000000^(n+1))≤val 1000000000 jK / val 1000000000 vs*val 1000000000 vs:=aMw _ t2
   have t4:=aM6 (val 1000000000 jK) (val 1000000000 vs)
   have t5:val 1000000000 jK / val 1000000000 vs*v1*1000000000^(n+1)<(u2*1000000000+u1+1)*1000000000^(n+1):=by rw[aMN];omega
   have:=aMx t5
   omega
  generalize hQ1:(u2*1000000000+u1) / v1=g0 at *
  generalize hQ2:(u2*1000000000+u1) % v1=l0 at *
  refine VY (i:=i) G T0 (by omega) Fs hu0 Ce CS Nw IH (by rfl) (by rfl) (by rw[aLZ g0];omega) TS (by omega) (by omega) ?_
  intro xA g' hq Oq hgW r19 r12 r13 r14 r15 r16 r17
  have WW:xA 12=VI s:=r12.trans KC
  have Uj:xA 13 = .ref 0 0 0 N N:=r13.trans Ce
  have WA:xA 14=jG vs:=r14.trans CS
  have V8:xA 15=VI ((n+2:Nat):Int):=r15.trans Nw
  have atA:xA 16 = .ref 1 0 0 m m:=r16.trans k16
  have apO:xA 17=VI i:=r17.trans IH
  simp only[WW,Uj,WA,V8,atA,apO,r19,VX,Nat.reduceEqDiff,Nat.reduceAdd]
  have xB:g'*val 1000000000 vs≤val 1000000000 jK+val 1000000000 vs:=by
   have:=aKY (val 1000000000 vs) Oq
   rw[aK2,aM7] at this
   have:=aM6 (val 1000000000 jK) (val 1000000000 vs)
   omega
  obtain⟨low,azU⟩:∃low,low=jK.take (n+2):=⟨_,rfl⟩
  have hll:low.length=n+2:=by rw[azU,aL6];omega
  have hld:∀d∈low,d<1000000000:=fun d hd=>SF d (by rw[azU] at hd;exact aLu hd)
  have hsg:jK=low++[u2]:=by
   have h1:jK[n+2]? = some u2:=by rw[yR _ (by omega)];exact hu2
   have h2:=aLG (n+2) jK
   have h3:=(aKw.1 h1)
   rw[List.drop_eq_getElem_cons h3.1,h3.2,aMq (by omega),←azU] at h2
   exact h2.symm
  have TX:val 1000000000 jK=val 1000000000 low+1000000000^(n+2)*u2:=by rw[hsg,vY,hll]
  have lL:∀(lw:List Nat) (t:Nat),(us.take i).map tV++lw.map tV++VI (t:Int)::(us.drop (i+(n+2+1))).map tV=(us.take i++(lw++[t])++us.drop (i+(n+2+1))).map tV:=fun lw t=>by simp
  have Kh:aG (H2 us os) 0 0=some ((us.take i).map tV++low.map tV++VI (u2:Int)::(us.drop (i+(n+2+1))).map tV,1,true):=by
   rw[lL,←hsg,←YR]
   rfl
  refine fV rfl ((aeA (o:=i) (n:=n+2) Kh (aK1 _) (by simpa using DL) hll HC (by omega) Fs hld I2 hgW lu2).mono ?_)
  rintro r H' ⟨Dk,c,rfl,Ge,hd',hc,hr,hE⟩
  have aGS:val 1000000000 low<1000000000^(n+2):=by have:=rO hld;rwa [hll] at this
  have aEy:val 1000000000 Dk<1000000000^(n+2):=by have:=rO hd';rwa [Ge] at this
  have rows:∀(lw:List Nat) (t q:Nat),lw.length=n+2→(∀d∈lw,d<1000000000)→t<1000000000→q=val 1000000000 jK / val 1000000000 vs→val 1000000000 lw+1000000000^(n+2)*t=val 1000000000 jK % val 1000000000 vs →
    ((us.take i++(lw++[t])++us.drop (i+(n+2+1))).length=N∧(∀d∈us.take i++(lw++[t])++us.drop (i+(n+2+1)),d<1000000000)∧val 1000000000 ((us.take i++(lw++[t])++us.drop (i+(n+2+1))).drop i)<val 1000000000 vs∧val 1000000000 (us.take i++(lw++[t])++us.drop (i+(n+2+1)))+1000000000^i*val 1000000000 vs*val 1000000000 ((os.set i q).drop i)=A):=by
   intro lw t q hlw aER ht Xa hse
   have auB:val 1000000000 (lw++[t])=val 1000000000 jK % val 1000000000 vs:=by rw[vY,hlw];exact hse
   have aDC:(lw++[t]).length=n+3:=by rw[aKI,hlw];rfl
   have aFi:∀d∈lw++[t],d<1000000000:=fun d hd=>by
    rcases aLt.1 hd with h | h
    ·exact aER d h
    ·rw[List.mem_singleton.1 h];exact ht
   generalize lw++[t]=uQ at *
   have atL:=aKZ (val 1000000000 jK) Lf
   have Yh:(us.take i++uQ++us.drop (i+(n+2+1))).drop i=uQ++us.drop (i+(n+2+1)):=by rw[aMj,List.drop_append,aMq (by omega),DL];simp
   have Xj:(us.take i++uQ++us.drop (i+(n+2+1))).take i=us.take i:=by rw[aMj,aM8 (by omega),aLq (by omega)]
   have Um:val 1000000000 ((us.take i++uQ++us.drop (i+(n+2+1))).drop i)=val 1000000000 uQ:=by rw[Yh,BA,amQ,aMD,aME]
   refine⟨by rw[aKI,aKI,DL,aDC,aMY];omega,fun d hd => ?_,by rw[Um,auB];exact atL,?_⟩
   ·rw[aLt,aLt] at hd
    rcases hd with(hd | hd) | hd
    ·exact LR d (aLu hd)
    ·exact aFi d hd
    ·exact LR d (aLv hd)
   ·have h1:=aM9 (val 1000000000 jK) (val 1000000000 vs)
    rw[←Xa,←auB,aLZ] at h1
    have h2:=sP (b:=1000000000) us i
    have h3:=sP (b:=1000000000) (us.take i++uQ++us.drop (i+(n+2+1))) i
    rw[Xj,DL,Um] at h3
    rw[DL,aiH] at h2
    rw[set_drop (by omega),wG,h3]
    rw[h2,aLY] at hv
    exact Ow h1.symm hv
  have e3:∀(Ik:List Nat) (d:Nat),bJ 1 (.ref 1 0 0 m m) (VI i) (H2 Ik os)=some (.ptr 1 0 i 0)∧bL 0 1 (.ptr 1 0 i 0) (VI (d:Int)) (H2 Ik os)=some (H2 Ik (os.set i d)):=fun Ik d=>by
   refine⟨by rw[bB aBd (by omega),aL5],?_⟩
   rw[show VI (d:Int)=tV d from rfl,dQ (f:=tV) (e:=1) aBd (by omega) (aK1 _) rfl rfl]
   rfl
  have wi:IntKind.i64.wrap ((i:Int)-1)=(i:Int)-1:=wrap64 (by omega) (by omega)
  have hdm:=aM9 (val 1000000000 jK) (val 1000000000 vs)
  have atL:=aKZ (val 1000000000 jK) Lf
  generalize hPP:1000000000^(n+2)=P at *
  by_cases mE:(u2:Int)-(c:Int)<0
  ·
   rw[decide_eq_true mE] at hr
   subst hr
   have hgt:val 1000000000 jK<g'*val 1000000000 vs:=by
    have h1:P*(u2+1)≤P*c:=aMw _ (by omega)
    rw[aMW,Nat.mul_one] at h1
    omega
   have Xa:g'=val 1000000000 jK / val 1000000000 vs+1:=by
    rcases Nat.lt_or_ge (val 1000000000 jK / val 1000000000 vs) g' with h | h
    ·omega
    ·have h1:g'*val 1000000000 vs≤val 1000000000 jK / val 1000000000 vs*val 1000000000 vs:=aKY _ h
     have:=aM6 (val 1000000000 jK) (val 1000000000 vs)
     omega
   have hg1:1≤g':=by rw[Xa];exact Nat.le_add_left 1 _
   have wg:IntKind.i64.wrap ((g':Int)-1)=((g'-1:Nat):Int):=wrapN _ (by omega) (by omega)
   simp only[WW,Uj,WA,V8,atA,apO,r19,wg,VX,Nat.reduceEqDiff,Nat.reduceAdd]
   have TT:aG ((H2 us os).set 0 (.row 0 ((us.take i).map tV++Dk.map tV++VI ((u2:Int)-(c:Int))::(us.drop (i+(n+2+1))).map tV) 1 true)) 0 0=some ((us.take i).map tV++Dk.map tV++VI ((u2:Int)-(c:Int))::(us.drop (i+(n+2+1))).map tV,1,true):=rfl
   refine fV rfl ((afI (o:=i) (n:=n+2) TT (aK1 _) (by simpa using DL) Ge HC (by omega) Fs hd' I2 (by omega) (by omega)).mono ?_)
   rintro r H' ⟨Yy,c2,rfl,IQ,hd2,hc2,hE2⟩
   rw[hPP] at hE2
   have awN:val 1000000000 Yy<P:=by have:=rO hd2;rwa [IQ,hPP] at this
   obtain⟨hy,hZ⟩:(u2:Int)-(c:Int)+(c2:Int)=0∧val 1000000000 Yy=val 1000000000 jK % val 1000000000 vs:=by
    refine arR (P:=P) ?_ awN (by omega)
    have i1:(P:Int)*((u2:Int)-(c:Int)+(c2:Int))=(P:Int)*u2-(P:Int)*c+(P:Int)*c2:=by rw[Int.mul_add,Int.mul_sub]
    have i2:((P*u2:Nat):Int)=(P:Int)*u2:=by simp
    have i3:((P*c:Nat):Int)=(P:Int)*c:=by simp
    have i4:((P*c2:Nat):Int)=(P:Int)*c2:=by simp
    rw[i1,←i2,←i3,←i4]
    have i5:g'*val 1000000000 vs=val 1000000000 vs*(val 1000000000 jK / val 1000000000 vs)+val 1000000000 vs:=by rw[Xa,aK2,aM7,aLZ (val 1000000000 vs)]
    omega
   have Kj:((H2 us os).set 0 (.row 0 ((us.take i).map tV++Dk.map tV++VI ((u2:Int)-(c:Int))::(us.drop (i+(n+2+1))).map tV) 1 true)).set 0 (.row 0 ((us.take i).map tV++Yy.map tV++VI ((u2:Int)-(c:Int)+(c2:Int))::(us.drop (i+(n+2+1))).map tV) 1 true)=H2 (us.take i++(Yy++[0])++us.drop (i+(n+2+1))) os:=by
    rw[hy]
    rw[show (0:Int)=((0:Nat):Int) from rfl,lL]
    rfl
   rw[Kj]
   obtain⟨x1,x2⟩:=e3 (us.take i++(Yy++[0])++us.drop (i+(n+2+1))) (g'-1)
   obtain⟨y1,y2,y3,y4⟩:=rows Yy 0 (g'-1) IQ hd2 (by decide) (by rw[Xa,Nat.add_sub_cancel]) (by rw[aMD,aME];exact hZ)
   simp only[WW,Uj,WA,V8,atA,apO,x1,x2,wi,VX,Nat.reduceEqDiff,Nat.reduceAdd]
   refine⟨(i,us.take i++(Yy++[0])++us.drop (i+(n+2+1)),os.set i (g'-1)),by simp only;omega,by omega,rfl,y1,y2,by rw[aMv];exact hJ,nW nJ (by omega),y3,y4,?_⟩
   try (repeat' apply aMd)<;>first | rfl | trivial
  ·rw[decide_eq_false mE] at hr
   subst hr
   obtain⟨t',ht'⟩:∃t':Nat,(u2:Int)-(c:Int)=(t':Int):=⟨u2-c,by omega⟩
   have hP1:P*u2=P*c+P*t':=by rw[←aMW];congr 1;omega
   have Hj:g'*val 1000000000 vs≤val 1000000000 jK:=by omega
   have Xa:g'=val 1000000000 jK / val 1000000000 vs:=by
    have:=(aM5 Lf).2 Hj
    omega
   have Kj:(H2 us os).set 0 (.row 0 ((us.take i).map tV++Dk.map tV++VI ((u2:Int)-(c:Int))::(us.drop (i+(n+2+1))).map tV) 1 true)=H2 (us.take i++(Dk++[t'])++us.drop (i+(n+2+1))) os:=by
    rw[ht',lL]
    rfl
   rw[Kj]
   obtain⟨x1,x2⟩:=e3 (us.take i++(Dk++[t'])++us.drop (i+(n+2+1))) g'
   have hse:val 1000000000 Dk+P*t'=val 1000000000 jK % val 1000000000 vs:=by
    rw[←Xa,aLZ] at hdm
    omega
   obtain⟨y1,y2,y3,y4⟩:=rows Dk t' g' Ge hd' (by omega) Xa hse
   simp only[WW,Uj,WA,V8,atA,apO,r19,x1,x2,wi,VX,Nat.reduceEqDiff,Nat.reduceAdd]
   refine⟨(i,us.take i++(Dk++[t'])++us.drop (i+(n+2+1)),os.set i g'),by simp only;omega,by omega,rfl,y1,y2,by rw[aMv];exact hJ,nW nJ (by omega),y3,y4,?_⟩
   try (repeat' apply aMd)<;>first | rfl | trivial
 ·have Xm:j=0:=by omega
  subst Xm
  rw[Nat.pow_zero,aM7,aLJ] at hv
  rw[aLJ] at bH
  simp only[kE,KC,Ce,CS,Nw,k16,IH,hz,VX,Nat.reduceEqDiff,Nat.reduceAdd]
  exact hQ _ us os KC Ce k16 T0 LR hJ nJ hv bH
end Go.PM
namespace Go.PM
def bl (n:Nat):Nat:=(aD 2 n).length
theorem HH (n:Nat):n<2^bl n:=iN (by decide) n
theorem xL {n k:Nat} (h:n<2^k):bl n≤k:=oJ (by decide) h
theorem lZ {m n:Nat} (h:m≤n):bl m≤bl n:=eZ (by decide) h
theorem nU (m n:Nat):bl (m*n)≤bl m+bl n:=by
 refine xL ?_
 rw[Nat.pow_add]
 exact Nat.mul_lt_mul'' (HH m) (HH n)
theorem Jz {n k:Nat} (h:bl n≤k):n<2^k:=aKz (HH n) (aMA (by decide) h)
theorem YK {m n k:Nat} (hm:bl m≤k) (hn:bl n≤k):bl (m+n)≤k+1:=by
 refine xL ?_
 have h1:=Jz hm
 have h2:=Jz hn
 rw[aLY]
 omega
theorem ZV:bl 0=0:=by simp[bl,cF]
theorem Kv:bl 1=1:=by simp[bl,kQ (b:=2) (by decide) (n:=1) (by decide),cF]
theorem anP {n:Nat} (h:n≠0):1≤bl n:=by
 have:=lZ (m:=1) (n:=n) (by omega)
 rwa [Kv] at this
theorem avM (n:Nat):32*(aD 4294967296 n).length≤bl n+31:=by
 by_cases h:n=0
 ·subst h;rw[cF];simp
 ·have h1:=Nv (b:=4294967296) (by decide) h
  have h2:=HH n
  have e:(4294967296:Nat)=2^32:=by decide
  rw[e] at h1 ⊢
  rw[←Nat.pow_mul] at h1
  have h3:2^(32*((aD (2^32) n).length-1))<2^bl n:=by omega
  have h4:=(aM1 (by decide)).1 h3
  omega
theorem auT (n:Nat):29*(aD 1000000000 n).length≤bl n+28:=by
 by_cases h:n=0
 ·subst h;rw[cF];simp
 ·have h1:=Nv (b:=1000000000) (by decide) h
  have h2:=HH n
  have h5:(2^29)^((aD 1000000000 n).length-1)≤1000000000^((aD 1000000000 n).length-1):=Nat.pow_le_pow_left (by decide) _
  rw[←Nat.pow_mul] at h5
  have h3:2^(29*((aD 1000000000 n).length-1))<2^bl n:=by omega
  have h4:=(aM1 (by decide)).1 h3
  omega
def aK (q:Rat):Nat:=max (bl q.num.natAbs) (bl q.den)
theorem qB {q:Rat}:bl q.num.natAbs≤aK q:=Nat.le_max_left _ _
theorem oB {q:Rat}:bl q.den≤aK q:=Nat.le_max_right _ _
theorem RH {q:Rat}:1≤aK q:=aKy (anP q.den_nz) oB
theorem N5 {q:Rat} {k:Nat} (h1:bl q.num.natAbs≤k) (h2:bl q.den≤k):aK q≤k:=Nat.max_le.2 ⟨h1,h2⟩
theorem Dw {n:Int} {d k:Nat} (h1:bl n.natAbs≤k) (h2:bl d≤k) (hk:1≤k):aK (mkRat n d)≤k:=by
 refine N5 ?_ ?_
 ·rw[Rat.num_mkRat]
  split
  ·rw[Int.natAbs_zero,ZV];omega
  ·exact aKy (lZ (Int.natAbs_ediv_le_natAbs _ _)) h1
 ·rw[Rat.den_mkRat]
  split
  ·rw[Kv];exact hk
  ·exact aKy (lZ (aM4 _ _)) h2
theorem vF (a b:Rat):aK (a+b)≤aK a+aK b+1:=by
 rw[Rat.add_def']
 have h1 := @qB a
 have h2 := @qB b
 have h3 := @oB a
 have h4 := @oB b
 have h5:=nU a.num.natAbs b.den
 have h6:=nU b.num.natAbs a.den
 have h7:=nU a.den b.den
 refine Dw ?_ (by omega) (by omega)
 have h8:(a.num*b.den+b.num*a.den).natAbs≤a.num.natAbs*b.den+b.num.natAbs*a.den:=by
  refine aKy (Int.natAbs_add_le _ _) ?_
  rw[aNb,aNb,aNc,aNc]
  exact aKx _
 exact aKy (lZ h8) (YK (by omega) (by omega))
theorem fW (a b:Rat):aK (a*b)≤aK a+aK b:=by
 rw[Rat.mul_def']
 have h1 := @qB a
 have h2 := @qB b
 have h3 := @oB a
 have h4 := @oB b
 have h5:=nU a.num.natAbs b.num.natAbs
 have h7:=nU a.den b.den
 have h8 := @RH a
 refine Dw ?_ (by omega) (by omega)
 rw[aNb]
 omega
theorem GU (a:Rat):aK (-a)=aK a:=by simp[aK]
theorem abE (a b:Rat):aK (a-b)≤aK a+aK b+1:=by
 rw[Rat.sub_eq_add_neg]
 have:=vF a (-b)
 rwa [GU] at this
theorem RI (a:Rat):aK a⁻¹≤aK a:=by
 have h1 := @qB a
 have h2 := @oB a
 refine N5 ?_ ?_
 ·rw[Rat.num_inv,aNb,aNc]
  refine aKy (lZ ?_) h2
  have h3:a.num.sign.natAbs≤1:=by
   rcases Int.lt_trichotomy a.num 0 with h | h | h
   ·rw[Int.sign_eq_neg_one_of_neg h];decide
   ·rw[h];decide
   ·rw[Int.sign_eq_one_of_pos h];decide
  have:=aKY a.den h3
  omega
 ·rw[Rat.den_inv]
  split
  ·rw[Kv];exact RH
  ·exact h1
theorem Dg (a b:Rat):aK (a / b)≤aK a+aK b:=by
 rw[Rat.div_def]
 have:=fW a b⁻¹
 have:=RI b
 omega
theorem Db (n:Int):aK (n:Rat)≤max (bl n.natAbs) 1:=by
 refine N5 ?_ ?_
 ·rw[Rat.num_intCast];exact Nat.le_max_left _ _
 ·rw[Rat.den_intCast,Kv];exact Nat.le_max_right _ _
theorem sC:aK 0=1:=by simp[aK,ZV,Kv]
theorem AO:aK 1=1:=by simp[aK,Kv]
theorem Q2 (a:Rat):∀n:Nat,aK (a^n)≤n*aK a+1
 | 0=>by rw[Rat.pow_zero,AO];omega
 |
  n+1=>by
  rw[Rat.pow_succ]
  have h1:=fW (a^n) a
  have h2:=Q2 a n
  rw[aK2]
  omega
def mG (neg:Bool) (t:Nat):Int:=if neg then -(t:Int) else t
theorem qV (neg:Bool) (t:Nat):(mG neg t).natAbs=t:=by cases neg<;>simp[mG]
theorem S9 {neg:Bool} {t:Nat}:mG neg t<0↔neg=true∧t≠0:=by cases neg<;>simp[mG]<;>omega
theorem AX (neg:Bool):mG neg 0=0:=by cases neg<;>rfl
theorem J3 (z:Int):mG (decide (z<0)) z.natAbs=z:=by
 by_cases h:z<0<;>simp[mG,h]<;>omega
theorem atE {neg:Bool} {t g:Nat}:(mG neg t) / (g:Int)=mG neg (t / g)∨¬g ∣ t:=by
 by_cases h:g ∣ t
 ·left
  obtain⟨k,rfl⟩:=h
  by_cases hg:g=0
  ·subst hg;simp[AX]
  ·rw[Nat.mul_div_cancel_left _ (by omega)]
   cases neg
   ·simp only[mG]
    simp only[aK9,if_false]
    rw[aMX,aNd _ (by omega)]
   ·simp only[mG,if_true]
    rw[aMX,←Int.mul_neg,aNd _ (by omega)]
 ·exact .inr h
theorem H9 {neg:Bool} {t b:Nat} (hb:b≠0):(mkRat (mG neg t) b).num=mG neg (t / Nat.gcd t b):=by
 rw[Rat.num_mkRat,if_neg hb,qV,Nat.gcd_comm]
 rcases atE (neg:=neg) (t:=t) (g:=Nat.gcd t b) with h | h
 ·exact h
 ·exact absurd (Nat.gcd_dvd_left _ _) h
theorem Ss {neg:Bool} {t b:Nat} (hb:b≠0):(mkRat (mG neg t) b).den=b / Nat.gcd t b:=by
 rw[Rat.den_mkRat,if_neg hb,qV,Nat.gcd_comm]
theorem NK (q:Rat):mkRat (mG (decide (q.num<0)) q.num.natAbs) q.den=q:=by rw[J3,Rat.mkRat_self]
end Go.PM