/- Texts of a claim, in one: part 9. -/
import Derived.Test.YtjmflicajplclaaGreatDoorKYh
set_option linter.unusedSimpArgs false
set_option linter.unusedVariables false
namespace Go.PM
theorem xQ {d:Nat} {H:aA}:fz (d+1) H (.tree [] .nil)=some (bS 0):=by
 rw[ED]
 unfold fz
 have:aY (.tree [] .nil)=false:=by simp[aY]
 simp only[this,Bool.false_eq_true,if_false]
 rfl
theorem afA {d:Nat} {H:aA} {m:Nat} {t:TK} (ht:t = .cl 1∨t = .op):fz (d+2) H (.tree ((aC 4294967296 m).map uV) t)=some (bS m):=by
 rcases ht with rfl | rfl
 ·unfold fz
  have:aY (.tree ((aC 4294967296 m).map uV) (.cl 1))=false:=by simp[aY]
  simp only[this,Bool.false_eq_true,if_false]
  rw[mapM_pure (fI fun _=>rfl)]
  rfl
 ·exact aM (cB m)
abbrev H3 (us ws os:List Nat):aA:=[.row 0 (us.map uV) 1 true,.row 0 (ws.map uV) 1 true,.row 0 (os.map uV) 1 true]
theorem Dn {us ws os:List Nat}:aF (H3 us ws os) 0 0=some (us.map uV,1,true):=rfl
theorem atD {us ws os:List Nat}:aF (H3 us ws os) 1 0=some (ws.map uV,1,true):=rfl
theorem aiI {us ws os:List Nat}:aF (H3 us ws os) 2 0=some (os.map uV,1,true):=rfl
theorem Zk {us:List Nat} {i n N V:Nat} (hN:us.length=N) (cS:i+n<N) (hd:∀d∈us,d<4294967296) (hV:V<4294967296^n) (CT:val 4294967296 (us.drop (i+1))<V) :
  us=us.take i++(us.drop i).take (n+1)++us.drop (i+(n+1))∧(us.take i).length=i∧((us.drop i).take (n+1)).length=n+1∧val 4294967296 ((us.drop i).take (n+1))<4294967296*V∧val 4294967296 (us.drop i)=val 4294967296 ((us.drop i).take (n+1))∧val 4294967296 (us.drop (i+(n+1)))=0∧∀j,j<n+1→((us.drop i).take (n+1))[j]? = us[i+j]? := by
 obtain⟨x,hx⟩:∃x,us[i]? = some x:=⟨_,List.getElem?_eq_getElem (by omega)⟩
 have lx:=hd x (List.mem_of_getElem? hx)
 have h1:=tB (b:=4294967296) hx
 have h2:val 4294967296 (us.drop i)<4294967296*V:=by
  have:4294967296*(val 4294967296 (us.drop (i+1))+1)≤4294967296*V:=Nat.mul_le_mul_left _ CT
  omega
 have h3:=pR (b:=4294967296) (us.drop i) (n+1)
 have h4:((us.drop i).take (n+1)).length=n+1:=by rw[List.length_take,List.length_drop];omega
 rw[h4,List.drop_drop] at h3
 have h5:val 4294967296 (us.drop (i+(n+1)))=0:=by
  rcases Nat.eq_zero_or_pos (val 4294967296 (us.drop (i+(n+1)))) with h | h
  ·exact h
  ·have h6:4294967296^(n+1)*1≤4294967296^(n+1)*val 4294967296 (us.drop (i+(n+1))):=Nat.mul_le_mul_left _ h
   have h7:4294967296*V≤4294967296^(n+1):=by rw[Nat.pow_succ,Nat.mul_comm];exact Nat.mul_le_mul_right _ (by omega)
   omega
 rw[h5,Nat.mul_zero,Nat.add_zero] at h3
 refine⟨?_,by rw[List.length_take];omega,h4,by omega,h3,h5,fun j hj => ?_⟩
 ·rw[List.append_assoc,←List.drop_drop,List.take_append_drop,List.take_append_drop]
 ·rw[List.getElem?_take_of_lt hj,List.getElem?_drop]
theorem So {x D p w:Nat} (hp:0<p) (hw:p*w=4294967296):(x+4294967296*D) / p=((D % 4294967296*4294967296+x) / p) % 4294967296+4294967296*(D / p)∨¬x<4294967296:=by
 rcases Nat.lt_or_ge x 4294967296 with hx | hx
 ·left
  have h1:(x+4294967296*D) / p / 4294967296=D / p:=by
   rw[Nat.div_div_eq_div_mul,Nat.mul_comm p,←Nat.div_div_eq_div_mul,Nat.add_mul_div_left _ _ (by decide),Nat.div_eq_of_lt hx,Nat.zero_add]
  have h2:(x+4294967296*D) / p % 4294967296=(D % 4294967296*4294967296+x) / p % 4294967296:=by
   have e:x+4294967296*D=(D % 4294967296*4294967296+x)+p*(4294967296*(w*(D / 4294967296))):=by
    have h3:=Nat.mod_add_div D 4294967296
    have h4:p*(4294967296*(w*(D / 4294967296)))=(p*w)*(4294967296*(D / 4294967296)):=by grind
    rw[h4,hw]
    omega
   rw[e,Nat.add_mul_div_left _ _ hp,Nat.add_mul_mod_self_left]
  have:=Nat.mod_add_div ((x+4294967296*D) / p) 4294967296
  rw[h1,h2] at this
  exact this.symm
 ·right
  omega
theorem VN {x:Nat} (h0:x≠0) (hx:x<4294967296):∃s,s≤31∧TC 198 [uV x] (VI (s:Nat))∧x*2^s<4294967296:=by
 obtain⟨h1,h2,h3⟩:=Lib.bitLenAux_bounds 64 x (by omega) h0
 have h4:Lib.bitLenAux 64 x-1<32:=by
  have:2^(Lib.bitLenAux 64 x-1)<2^32:=by omega
  exact(Nat.pow_lt_pow_iff_right (by decide)).1 this
 refine⟨32-Lib.bitLenAux 64 x,by omega,?_,?_⟩
 ·have:=Yu x hx
  have e:(((32-Lib.bitLenAux 64 x:Nat)):Int)=32-(Lib.bitLen x:Int):=by unfold Lib.bitLen;omega
  rw[e]
  exact this
 ·have:2^Lib.bitLenAux 64 x*2^(32-Lib.bitLenAux 64 x)=4294967296:=by rw[←Nat.pow_add,show Lib.bitLenAux 64 x+(32-Lib.bitLenAux 64 x)=32 by omega]
  rw[←this]
  exact Nat.mul_lt_mul_of_pos_right h3 (Nat.pow_pos (by decide))
theorem ZF {us ws os:List Nat} {k N s w0:Nat} {ρ:dL} {Q:VQ} (hs:s≤31) (hw:2^s*w0=4294967296) (hN:us.length=N) (hk:k≤N) (Eh:N≤70368744177664) (hd:∀d∈us,d<4294967296) (g8:ρ 8=VI s) (g9:ρ 9 = .ref 0 0 0 k N) (ayQ:ρ 147=VI k) (aAQ:ρ 148=VI 0)
  (hQ:∀(bL:dL) (Gk:List Nat),bL 9 = .ref 0 0 0 k N→bL 13=ρ 13→Gk.length=N→(∀d∈Gk,d<4294967296)→val 4294967296 (Gk.take k)=val 4294967296 (us.take k) / 2^s→Q (.exit 4) bL (H3 Gk ws os)) :
  VW ⟨true,false⟩ 0 (.loop kX) Q ρ (H3 us ws os):=by
 have hp:0<2^s:=Nat.pow_pos (by decide)
 refine aU (fun(t:Nat×List Nat) bL H=>t.1≤k∧H=H3 t.2 ws os∧t.2.length=N∧(∀d∈t.2,d<4294967296)∧(∀j,t.1≤j→t.2[j]? = us[j]?)∧val 4294967296 (t.2.take t.1)+4294967296^t.1*(val 4294967296 ((us.take k).drop t.1) / 2^s)=val 4294967296 (us.take k) / 2^s ∧
  bL 8=VI s∧bL 9 = .ref 0 0 0 k N∧bL 13=ρ 13∧bL 147=VI k∧bL 148=VI t.1) (fun t=>k-t.1) (0,us) ⟨Nat.zero_le _,rfl,hN,hd,fun _ _=>rfl,by simp[val],g8,g9,rfl,ayQ,aAQ⟩ ?_
 rintro⟨i,vs⟩ PX H ⟨hi,rfl,Fq,HH,GJ,hv,k8,k9,B1,anJ,aiJ⟩
 simp only at hi Fq HH GJ hv aiJ
 by_cases cS:(i:Int)<(k:Int)
 ·obtain⟨x,hx⟩:∃x,us[i]? = some x:=⟨_,List.getElem?_eq_getElem (by omega)⟩
  have hx2:vs[i]? = some x:=by rw[GJ i (Nat.le_refl _)];exact hx
  have lx:=hd x (List.mem_of_getElem? hx)
  have hx3:(us.take k)[i]? = some x:=by rw[List.getElem?_take_of_lt (by omega)];exact hx
  have h1:=tB (b:=4294967296) hx3
  generalize hD:val 4294967296 ((us.take k).drop (i+1))=D at *
  have hlen:oS (.ref 0 0 0 k N) (H3 vs ws os)=some (VI k):=dX Dn
  have e1:bQ 1 (.ref 0 0 0 k N) (VI i) (H3 vs ws os)=some (.ptr 0 0 i 0):=by rw[bD Dn (by omega),Nat.zero_add]
  have e2:bX false 1 (.ptr 0 0 i 0) (H3 vs ws os)=some (uV x):=iT Dn hx2
  have e3:∀d:Nat,bI 0 1 (.ptr 0 0 i 0) (uV d) (H3 vs ws os)=some (H3 (vs.set i d) ws os):=fun d=>by
   rw[fA (f:=uV) (e:=1) Dn (by omega) (Nat.le_refl _) rfl rfl]
   rfl
  have wi:IntKind.i64.wrap ((i:Int)+1)=((i+1:Nat):Int):=wrapN (i+1) (by omega) (by omega)
  have wx:IntKind.u64.wrap (x:Int)=(x:Int):=eE _ (by omega)
  have hm:=Nat.mod_lt D (show 0<4294967296 by decide)
  have w5:=Ew (D % 4294967296) .u64 hm
  have w6:IntKind.u64.wrap (((D % 4294967296*4294967296:Nat):Int)+(x:Int))=((D % 4294967296*4294967296+x:Nat):Int):=by rw[←Int.natCast_add];exact eE _ (by omega)
  have w7:=aaI (D % 4294967296*4294967296+x) s hs
  have sd:(x+4294967296*D) / 2^s=((D % 4294967296*4294967296+x) / 2^s) % 4294967296+4294967296*(D / 2^s):=by
   rcases So (x:=x) (D:=D) hp hw with h | h
   ·exact h
   ·exact absurd lx h
  have next:∃s':Nat×List Nat,k-s'.1<k-i∧s'.1≤k∧H3 (vs.set i (((D % 4294967296*4294967296+x) / 2^s) % 4294967296)) ws os=H3 s'.2 ws os∧s'.2.length=N∧(∀d∈s'.2,d<4294967296)∧(∀j,s'.1≤j→s'.2[j]? = us[j]?)∧val 4294967296 (s'.2.take s'.1)+4294967296^s'.1*(val 4294967296 ((us.take k).drop s'.1) / 2^s)=val 4294967296 (us.take k) / 2^s∧s'.1=i+1:=by
   refine⟨(i+1,vs.set i (((D % 4294967296*4294967296+x) / 2^s) % 4294967296)),by simp only;omega,by simp only;omega,rfl,by simp only[List.length_set];exact Fq,lZ HH (Nat.mod_lt _ (by decide)),fun j hj => ?_,?_,rfl⟩
   ·simp only at hj ⊢
    rw[List.getElem?_set_ne (by omega)]
    exact GJ j (by omega)
   ·simp only
    rw[eT (by omega),hD,←hv,h1,sd,Nat.pow_succ]
    generalize (D % 4294967296*4294967296+x) / 2^s % 4294967296=q
    generalize D / 2^s=E
    rw[Nat.mul_add,Nat.mul_assoc,Nat.add_assoc]
  obtain⟨s',n1,n2,n3,n4,n5,n6,n7,n8⟩:=next
  by_cases avD:((i+1:Nat):Int)<(k:Int)
  ·obtain⟨h,hh⟩:∃h,us[i+1]? = some h:=⟨_,List.getElem?_eq_getElem (by omega)⟩
   have hh2:vs[i+1]? = some h:=by rw[GJ (i+1) (by omega)];exact hh
   have hhD:D % 4294967296=h:=by
    have hh3:(us.take k)[i+1]? = some h:=by rw[List.getElem?_take_of_lt (by omega)];exact hh
    have:=tB (b:=4294967296) hh3
    rw[hD] at this
    have lh:=hd h (List.mem_of_getElem? hh)
    omega
   have f1:bQ 1 (.ref 0 0 0 k N) (VI ((i+1:Nat):Int)) (H3 vs ws os)=some (.ptr 0 0 (i+1) 0):=by rw[bD Dn (by omega),Nat.zero_add]
   have f2:bX false 1 (.ptr 0 0 (i+1) 0) (H3 vs ws os)=some (uV h):=iT Dn hh2
   have wh:IntKind.u64.wrap (h:Int)=(h:Int):=eE _ (by omega)
   rw[hhD] at w5 w6 w7 n3
   simp only[kX,k8,k9,anJ,aiJ,cS,avD,hlen,e1,e2,e3,f1,f2,wi,wx,wh,w5,w6,w7,wrap32,VX,Nat.reduceEqDiff,Nat.reduceAdd]
   exact⟨s',n1,n2,n3,n4,n5,n6,n7,B1,by rw[n8]⟩
  ·have hD0:D=0:=by
    rw[←hD,List.drop_of_length_le (by rw[List.length_take];omega)]
    rfl
   subst hD0
   have w5':dG .shl (.int .u64 0) (.int .u64 32)=some (.int .u64 0):=Ew 0 .u64 (by decide)
   have w6':IntKind.u64.wrap ((0:Int)+(x:Int))=(x:Int):=by rw[Int.zero_add];exact wx
   have w7':=aaI x s hs
   simp only[Nat.zero_mod,Nat.zero_mul,Nat.zero_add] at n3
   simp only[kX,k8,k9,anJ,aiJ,cS,avD,hlen,e1,e2,e3,wi,wx,w5',w6',w7',wrap32,VX,Nat.reduceEqDiff,Nat.reduceAdd]
   exact⟨s',n1,n2,n3,n4,n5,n6,n7,B1,by rw[n8]⟩
 ·have mT:i=k:=by omega
  subst mT
  rw[List.drop_of_length_le (by rw[List.length_take];omega)] at hv
  simp only[val,Nat.zero_div,Nat.mul_zero,Nat.add_zero] at hv
  simp only[kX,k8,k9,anJ,aiJ,cS,VX,Nat.reduceEqDiff,Nat.reduceAdd]
  exact hQ _ vs k9 B1 Fq HH hv
end Go.PM
namespace Go.PM
theorem Vp {iK vs us ws os:List Nat} {n u2 u1 u0 v1 v0 N k g left:Nat} (G:wW 4294967296 iK vs n u2 u1 u0 v1 v0) {ρ:dL} {Q:VQ} (hN:us.length=N) (hk2:2≤k) (hkN:k<N) (Eh:N≤70368744177664) (hu0:us[k-2]? = some u0)
  (g9:ρ 9 = .ref 0 0 0 N N) (g11:ρ 11=VK .u64 v1) (g12:ρ 12=VK .u64 v0) (g15:ρ 15=VI k) (g17:ρ 17=VK .u64 g) (g18:ρ 18=VK .u64 left) (hh:u2*4294967296+u1=g*v1+left) (hq:val 4294967296 iK / val 4294967296 vs≤g) (hl:left<4294967296) (hgb:g<18446744073709551616)
  (hQ:∀(bL:dL) (g':Nat),val 4294967296 iK / val 4294967296 vs≤g'→g'≤val 4294967296 iK / val 4294967296 vs+1→g'<4294967296→bL 17=VK .u64 g'→bL 8=ρ 8→bL 9=ρ 9→bL 10=ρ 10→bL 11=ρ 11→bL 12=ρ 12→bL 13=ρ 13→bL 14=ρ 14→bL 15=ρ 15→Q (.exit 2) bL (H3 us ws os)) :
  VW ⟨true,false⟩ 0 (.loop gF) Q ρ (H3 us ws os):=by
 have lv1:=G.WV
 have lv0:=G.afS
 have lu0:=G.amW
 have qlt:=G.akR
 have lH:=G.pos
 refine aU (fun(t:Nat×Nat) bL H=>H=H3 us ws os∧u2*4294967296+u1=t.1*v1+t.2∧val 4294967296 iK / val 4294967296 vs≤t.1∧t.2<4294967296∧t.1<18446744073709551616 ∧
  bL 9 = .ref 0 0 0 N N∧bL 11=VK .u64 v1∧bL 12=VK .u64 v0∧bL 15=VI k∧bL 17=VK .u64 t.1∧bL 18=VK .u64 t.2∧bL 8=ρ 8∧bL 10=ρ 10∧bL 13=ρ 13∧bL 14=ρ 14) (fun t=>4294967296-t.2) (g,left) ⟨rfl,hh,hq,hl,hgb,g9,g11,g12,g15,g17,g18,rfl,rfl,rfl,rfl⟩ ?_
 rintro⟨g,left⟩ PX H ⟨rfl,hh,hq,hl,hgb,k9,W0,Jt,Li,I4,ZU,k8,ZS,B1,Di⟩
 simp only at hh hq hl hgb I4 ZU
 have e1:bQ 1 (.ref 0 0 0 N N) (VI ((k-2:Nat):Int)) (H3 us ws os)=some (.ptr 0 0 (k-2) 0):=by rw[bD Dn (by omega),Nat.zero_add]
 have e2:bX false 1 (.ptr 0 0 (k-2) 0) (H3 us ws os)=some (uV u0):=iT Dn hu0
 have wk:IntKind.i64.wrap ((k:Int)-2)=((k-2:Nat):Int):=wrapN _ (by omega) (by omega)
 have wu:IntKind.u64.wrap (u0:Int)=(u0:Int):=eE _ (by omega)
 have ws:=Ew left .u64 hl
 have wa:IntKind.u64.wrap (((left*4294967296:Nat):Int)+(u0:Int))=((left*4294967296+u0:Nat):Int):=by rw[←Int.natCast_add];exact eE _ (by omega)
 have wl:IntKind.u64.wrap ((left:Int)+(v1:Int))=((left+v1:Nat):Int):=by rw[←Int.natCast_add];exact eE _ (by omega)
 have same:PX 9=ρ 9∧PX 11=ρ 11∧PX 12=ρ 12∧PX 15=ρ 15:=⟨by rw[k9,g9],by rw[W0,g11],by rw[Jt,g12],by rw[Li,g15]⟩
 obtain⟨s9,s11,s12,s15⟩:=same
 have down:val 4294967296 iK / val 4294967296 vs<g→∃g',g=g'+1∧IntKind.u64.wrap ((g:Int)-1)=(g':Int)∧u2*4294967296+u1=g'*v1+(left+v1)∧val 4294967296 iK / val 4294967296 vs≤g':=by
  intro h
  have hg1:1≤g:=Nat.lt_of_le_of_lt (Nat.zero_le _) h
  obtain⟨g',rfl⟩:∃g',g=g'+1:=⟨g-1,by omega⟩
  refine⟨g',rfl,?_,?_,by omega⟩
  ·rw[show ((g'+1:Nat):Int)-1=(g':Int) by omega]
   exact eE _ (by omega)
  ·rw[hh,Nat.add_mul]
   omega
 by_cases hA:(4294967296:Int)≤(g:Int)
 ·obtain⟨g',hg',wg,Vf,Om⟩:=down (by omega)
  by_cases hB:(4294967296:Int)≤((left+v1:Nat):Int)
  ·obtain⟨c1,c2⟩:=G.broken Vf (by omega)
   simp only[gF,k9,W0,Jt,Li,I4,ZU,hA,hB,wg,wl,VX,Nat.reduceEqDiff,Nat.reduceAdd]
   exact hQ _ g' Om (G.Y5 Vf (by omega) c2) c1 rfl k8 s9 ZS s11 s12 B1 Di s15
  ·simp only[gF,k9,W0,Jt,Li,I4,ZU,hA,hB,wg,wl,VX,Nat.reduceEqDiff,Nat.reduceAdd]
   exact⟨(g',left+v1),by simp only;omega,Vf,Om,by simp only;omega,by simp only;omega,by rfl,by rfl,k8,ZS,B1,Di⟩
 ·have hgv:g*v0≤4294967295*4294967295:=Nat.mul_le_mul (by omega) (by omega)
  have wm:IntKind.u64.wrap ((g:Int)*(v0:Int))=((g*v0:Nat):Int):=by rw[←Int.natCast_mul];exact eE _ (by omega)
  by_cases hT:((left*4294967296+u0:Nat):Int)<((g*v0:Nat):Int)
  ·obtain⟨g',hg',wg,Vf,Om⟩:=down (G.too hh (by omega))
   by_cases hB:(4294967296:Int)≤((left+v1:Nat):Int)
   ·obtain⟨c1,c2⟩:=G.broken Vf (by omega)
    simp only[gF,k9,W0,Jt,Li,I4,ZU,hA,hB,hT,e1,e2,wk,wu,ws,wa,wm,wg,wl,VX,Nat.reduceEqDiff,Nat.reduceAdd]
    exact hQ _ g' Om (G.Y5 Vf (by omega) c2) c1 rfl k8 s9 ZS s11 s12 B1 Di s15
   ·simp only[gF,k9,W0,Jt,Li,I4,ZU,hA,hB,hT,e1,e2,wk,wu,ws,wa,wm,wg,wl,VX,Nat.reduceEqDiff,Nat.reduceAdd]
    exact⟨(g',left+v1),by simp only;omega,Vf,Om,by simp only;omega,by simp only;omega,by rfl,by rfl,k8,ZS,B1,Di⟩
  ·simp only[gF,k9,W0,Jt,Li,I4,ZU,hA,hT,e1,e2,wk,wu,ws,wa,wm,VX,Nat.reduceEqDiff,Nat.reduceAdd]
   exact hQ _ g hq (G.Y5 hh (by omega) (by omega)) (by omega) I4 k8 s9 ZS s11 s12 B1 Di s15
theorem Mj {X S S' R V q Q P w:Nat} (hs:S=q*V+S') (h:X+P*S+P*w*V*Q=R):X+P*S'+P*V*(q+w*Q)=R:=by
 subst hs
 grind
theorem abB {E5 ws ZX vs:List Nat} {N m n v1 v0 A s:Nat} {ρ:dL} {Q:VQ} (hN:E5.length=N) (hm:m+(n+2)=N) (Eh:N≤70368744177664) (J7:∀d∈E5,d<4294967296) (hws:ws.take (n+2)=vs) (hwl:ws.length=n+3) (Fq:vs.length=n+2) (HH:∀d∈vs,d<4294967296) (f1:vs[n+1]? = some v1) (f0:vs[n]? = some v0) (lH:1≤v1)
  (hA:val 4294967296 E5=A) (CT:val 4294967296 (E5.drop m)<val 4294967296 vs) (jK:ZX.length=m) (lM:∀d∈ZX,d<4294967296)
  (g8:ρ 8=VI s) (g9:ρ 9 = .ref 0 0 0 N N) (g10:ρ 10 = .ref 1 0 0 (n+2) (n+3)) (g11:ρ 11=VK .u64 v1) (g12:ρ 12=VK .u64 v0) (g13:ρ 13 = .ref 2 0 0 m m) (g14:ρ 14=VI ((m:Int)-1))
  (hQ:∀(bL:dL) (us os:List Nat),bL 8=VI s→bL 9 = .ref 0 0 0 N N→bL 13 = .ref 2 0 0 m m→us.length=N→(∀d∈us,d<4294967296)→os.length=m→(∀d∈os,d<4294967296)→val 4294967296 us+val 4294967296 vs*val 4294967296 os=A→val 4294967296 us<val 4294967296 vs→Q (.exit 0) bL (H3 us ws os)) :
  VW ⟨true,false⟩ 0 (.loop oE) Q ρ (H3 E5 ws ZX):=by
 have hVb:=oW HH
 rw[Fq] at hVb
 refine aU (fun(t:Nat×List Nat×List Nat) bL H=>t.1≤m∧H=H3 t.2.1 ws t.2.2∧t.2.1.length=N∧(∀d∈t.2.1,d<4294967296)∧t.2.2.length=m∧(∀d∈t.2.2,d<4294967296)∧val 4294967296 (t.2.1.drop t.1)<val 4294967296 vs∧val 4294967296 t.2.1+4294967296^t.1*val 4294967296 vs*val 4294967296 (t.2.2.drop t.1)=A ∧
  bL 8=VI s∧bL 9 = .ref 0 0 0 N N∧bL 10 = .ref 1 0 0 (n+2) (n+3)∧bL 11=VK .u64 v1∧bL 12=VK .u64 v0∧bL 13 = .ref 2 0 0 m m∧bL 14=VI ((t.1:Int)-1)) (fun t=>t.1) (m,E5,ZX) ⟨Nat.le_refl _,rfl,hN,J7,jK,lM,CT,by rw[List.drop_of_length_le (by simp only;omega)];simpa[val] using hA,g8,g9,g10,g11,g12,g13,g14⟩ ?_
 rintro⟨j,us,os⟩ PX H ⟨hj,rfl,Pl,J7,jK,lM,bH,hv,k8,k9,ZS,W0,Jt,B1,Di⟩
 simp only at hj Pl J7 jK lM bH hv Di
 by_cases hz:(0:Int)≤(j:Int)-1
 ·obtain⟨i,rfl⟩:∃i,j=i+1:=⟨j-1,by omega⟩
  have GI:((i+1:Nat):Int)-1=(i:Int):=by omega
  rw[GI] at Di hz
  obtain⟨Vg,Ak,Qe,hsW,adJ,abM,uC⟩:=Zk (n:=n+2) Pl (by omega) J7 hVb bH
  generalize Yg:(us.drop i).take (n+2+1)=iK at *
  have QU:∀d∈iK,d<4294967296:=fun d hd=>by rw[←Yg] at hd;exact J7 d (List.mem_of_mem_drop (List.mem_of_mem_take hd))
  obtain⟨u2,hu2⟩:∃u2,us[i+(n+2)]? = some u2:=⟨_,List.getElem?_eq_getElem (by omega)⟩
  obtain⟨u1,hu1⟩:∃u1,us[i+(n+1)]? = some u1:=⟨_,List.getElem?_eq_getElem (by omega)⟩
  obtain⟨u0,hu0⟩:∃u0,us[i+n]? = some u0:=⟨_,List.getElem?_eq_getElem (by omega)⟩
  have G:wW 4294967296 iK vs n u2 u1 u0 v1 v0:=⟨by decide,QU,HH,Qe,Fq,by rw[uC _ (by omega)];exact hu2,by rw[uC _ (by omega)];exact hu1,by rw[uC _ (by omega)];exact hu0,f1,f0,lH,hsW⟩
  have lu2:=G.alL
  have lu1:=G.abY
  have lv1:=G.WV
  have qlt:=G.akR
  have Jp:=G.Jp
  have aqD:oS (.ref 1 0 0 (n+2) (n+3)) (H3 us ws os)=some (VI ((n+2:Nat):Int)):=dX atD
  have w1:IntKind.i64.wrap ((i:Int)+((n+2:Nat):Int))=((i+(n+2):Nat):Int):=by rw[←Int.natCast_add];exact wrapN _ rfl (by omega)
  have w2:IntKind.i64.wrap (((i+(n+2):Nat):Int)-1)=((i+(n+1):Nat):Int):=wrapN _ (by omega) (by omega)
  have e2:bQ 1 (.ref 0 0 0 N N) (VI ((i+(n+2):Nat):Int)) (H3 us ws os)=some (.ptr 0 0 (i+(n+2)) 0):=by rw[bD Dn (by omega),Nat.zero_add]
  have e1:bQ 1 (.ref 0 0 0 N N) (VI ((i+(n+1):Nat):Int)) (H3 us ws os)=some (.ptr 0 0 (i+(n+1)) 0):=by rw[bD Dn (by omega),Nat.zero_add]
  have l2:bX false 1 (.ptr 0 0 (i+(n+2)) 0) (H3 us ws os)=some (uV u2):=iT Dn hu2
  have l1:bX false 1 (.ptr 0 0 (i+(n+1)) 0) (H3 us ws os)=some (uV u1):=iT Dn hu1
  have wu2:IntKind.u64.wrap (u2:Int)=(u2:Int):=eE _ (by omega)
  have wu1:IntKind.u64.wrap (u1:Int)=(u1:Int):=eE _ (by omega)
  have ws2:=Ew u2 .u64 lu2
  have wa:IntKind.u64.wrap (((u2*4294967296:Nat):Int)+(u1:Int))=((u2*4294967296+u1:Nat):Int):=by rw[←Int.natCast_add];exact eE _ (by omega)
  have q1:=Xv (u2*4294967296+u1) v1 (by omega) lH
  have q2:=QA (u2*4294967296+u1) v1 lH
  simp only[oE,k8,k9,ZS,W0,Jt,B1,Di,hz,aqD,w1,w2,e1,e2,l1,l2,wu1,wu2,ws2,wa,q1,q2,VX,Nat.reduceEqDiff,Nat.reduceAdd]
  have hh:=Nat.mod_add_div (u2*4294967296+u1) v1
  have hml:=Nat.mod_lt (u2*4294967296+u1) lH
  have Uv:(u2*4294967296+u1) / v1≤u2*4294967296+u1:=Nat.div_le_self _ _
  have Ry:val 4294967296 iK / val 4294967296 vs≤(u2*4294967296+u1) / v1:=by
   have t1:=(Et (n:=n+1) (xs:=iK) QU (by omega) (by rw[uC _ (by omega)];exact hu2) (by rw[uC _ (by omega)];exact hu1)).2
   have t2:=(AN (n:=n+1) HH Fq f1).1
   rw[Nat.le_div_iff_mul_le lH]
   have t3:val 4294967296 iK / val 4294967296 vs*(v1*4294967296^(n+1))≤val 4294967296 iK / val 4294967296 vs*val 4294967296 vs:=Nat.mul_le_mul_left _ t2
   have t4:=Nat.div_mul_le_self (val 4294967296 iK) (val 4294967296 vs)
   have t5:val 4294967296 iK / val 4294967296 vs*v1*4294967296^(n+1)<(u2*4294967296+u1+1)*4294967296^(n+1):=by rw[Nat.mul_assoc];omega
   have:=Nat.lt_of_mul_lt_mul_right t5
   omega
  refine Vp (k:=i+(n+2)) G Pl (by omega) (by omega) Eh (by rw[show i+(n+2)-2=i+n by omega];exact hu0) k9 W0 Jt (by rfl) (by rfl) (by rfl) (by rw[Nat.mul_comm ((u2*4294967296+u1) / v1)];omega) Ry (by omega) (by omega) ?_
  intro Vs g' hq Om hgW r17 r8 r9 r10 r11 r12 Vy r14 r15
  have Sj:Vs 15=VI ((i+(n+2):Nat):Int):=r15
  have r8':Vs 8=VI s:=r8.trans k8
  have r9':Vs 9 = .ref 0 0 0 N N:=r9.trans k9
  have apI:Vs 10 = .ref 1 0 0 (n+2) (n+3):=r10.trans ZS
  have apS:Vs 11=VK .u64 v1:=r11.trans W0
  have Te:Vs 12=VK .u64 v0:=r12.trans Jt
  have S3:Vs 13 = .ref 2 0 0 m m:=Vy.trans B1
  have SB:Vs 14=VI i:=r14.trans Di
  have w3:IntKind.i64.wrap (((i+(n+2):Nat):Int)+1)=((i+(n+3):Nat):Int):=wrapN _ (by omega) (by omega)
  have agO:Fi 1 (.ref 0 0 0 N N) (some (VI i)) (some (VI ((i+(n+3):Nat):Int))) none (H3 us ws os)=some (.ref 0 0 i (n+3) (N-i)):=by
   rw[abV Dn (by omega) (by omega),Nat.zero_add,Nat.add_sub_cancel_left]
  simp only[r8',r9',apI,apS,Te,S3,SB,Sj,r17,w3,agO,VX,Nat.reduceEqDiff,Nat.reduceAdd]
  have rP:g'*val 4294967296 vs≤val 4294967296 iK+val 4294967296 vs:=by
   have:=Nat.mul_le_mul_right (val 4294967296 vs) Om
   rw[Nat.add_mul,Nat.one_mul] at this
   have:=Nat.div_mul_le_self (val 4294967296 iK) (val 4294967296 vs)
   omega
  refine fG rfl ((UD (pre:=us.take i) (iK:=iK) (post:=us.drop (i+(n+2+1))) (L:=n+3) (o:=i) (by rw[←Vg];exact Dn) (atD (us:=us) (ws:=ws) (os:=os)) (by decide) (Nat.zero_le _) Ak Qe (by omega) hws (by omega) (by omega) QU HH hgW rP).mono ?_)
  rintro r H' ⟨rW,rfl,Co,YU,hr⟩
  generalize ajV:us.take i++rW++us.drop (i+(n+2+1))=Gk at *
  have I9:(H3 us ws os).set 0 (.row 0 (Gk.map uV) 1 true)=H3 Gk ws os:=rfl
  rw[I9]
  have aoW:Gk.length=N:=by rw[←ajV,List.length_append,List.length_append,Ak,Co,List.length_drop];omega
  have ajK:∀d∈Gk,d<4294967296:=fun d hd=>by
   rw[←ajV,List.mem_append,List.mem_append] at hd
   rcases hd with(hd | hd) | hd
   ·exact J7 d (List.mem_of_mem_take hd)
   ·exact YU d hd
   ·exact J7 d (List.mem_of_mem_drop hd)
  have U5:Gk.drop i=rW++us.drop (i+(n+2+1)):=by rw[←ajV,List.append_assoc,List.drop_append,List.drop_of_length_le (by omega),Ak];simp
  have UF:Gk.take i=us.take i:=by rw[←ajV,List.append_assoc,List.take_append_of_le_length (by omega),List.take_of_length_le (by omega)]
  have RI:val 4294967296 (Gk.drop i)=val 4294967296 rW:=by rw[U5,yO,abM,Nat.mul_zero,Nat.add_zero]
  have digit:∀q:Nat,q=val 4294967296 iK / val 4294967296 vs→val 4294967296 rW=val 4294967296 iK % val 4294967296 vs →
    val 4294967296 (Gk.drop i)<val 4294967296 vs∧val 4294967296 Gk+4294967296^i*val 4294967296 vs*val 4294967296 ((os.set i q).drop i)=A:=by
   rintro q RA hse
   have ahZ:=Nat.mod_lt (val 4294967296 iK) Jp
   refine⟨by rw[RI,hse];exact ahZ,?_⟩
   have h1:=Nat.div_add_mod (val 4294967296 iK) (val 4294967296 vs)
   rw[←RA,←hse,Nat.mul_comm] at h1
   have h2:=pR (b:=4294967296) us i
   have h3:=pR (b:=4294967296) Gk i
   rw[UF,Ak,RI] at h3
   rw[Ak,adJ] at h2
   rw[set_drop (by omega),sX,h3]
   rw[h2,Nat.pow_succ] at hv
   exact Mj h1.symm hv
  have e3:∀d:Nat,bQ 1 (.ref 2 0 0 m m) (VI i) (H3 Gk ws os)=some (.ptr 2 0 i 0)∧bI 0 1 (.ptr 2 0 i 0) (uV d) (H3 Gk ws os)=some (H3 Gk ws (os.set i d)):=fun d=>by
   refine⟨by rw[bD aiI (by omega),Nat.zero_add],?_⟩
   rw[fA (f:=uV) (e:=1) aiI (by omega) (Nat.zero_le _) rfl rfl]
   rfl
  have wi:IntKind.i64.wrap ((i:Int)-1)=(i:Int)-1:=wrap64 (by omega) (by omega)
  rcases hr with⟨rfl,hr⟩ | ⟨rfl,KH,hr2⟩
  ·have CJ:g'*val 4294967296 vs≤val 4294967296 iK:=by omega
   have RA:g'=val 4294967296 iK / val 4294967296 vs:=by
    have:=(Nat.le_div_iff_mul_le Jp).2 CJ
    omega
   have hse:val 4294967296 rW=val 4294967296 iK % val 4294967296 vs:=by
    have h1:=Nat.div_add_mod (val 4294967296 iK) (val 4294967296 vs)
    rw[←RA,Nat.mul_comm] at h1
    omega
   obtain⟨d1,d2⟩:=digit g' RA hse
   simp only[r8',r9',apI,apS,Te,S3,SB,Sj,r17,(e3 g').1,(e3 g').2,wi,wrap32,Nat.mod_eq_of_lt hgW,VX,Nat.reduceEqDiff,Nat.reduceAdd]
   exact⟨(i,Gk,os.set i g'),by simp only;omega,by omega,rfl,aoW,ajK,by rw[List.length_set];exact jK,lZ lM hgW,d1,d2,by (repeat' apply And.intro)<;>first | rfl | trivial⟩
  ·have agK:val 4294967296 iK / val 4294967296 vs<g':=(Nat.div_lt_iff_lt_mul Jp).2 KH
   have hg1:1≤g':=Nat.lt_of_le_of_lt (Nat.zero_le _) agK
   obtain⟨q,rfl⟩:∃q,g'=q+1:=⟨g'-1,by omega⟩
   have RA:q=val 4294967296 iK / val 4294967296 vs:=by omega
   have hse:val 4294967296 rW=val 4294967296 iK % val 4294967296 vs:=by
    have h1:=Nat.div_add_mod (val 4294967296 iK) (val 4294967296 vs)
    rw[←RA,Nat.mul_comm] at h1
    rw[Nat.add_mul,Nat.one_mul] at hr2
    omega
   have wq:IntKind.u64.wrap (((q+1:Nat):Int)-1)=(q:Int):=by rw[show ((q+1:Nat):Int)-1=(q:Int) by omega];exact eE _ (by omega)
   obtain⟨d1,d2⟩:=digit q RA hse
   simp only[r8',r9',apI,apS,Te,S3,SB,Sj,r17,wq,(e3 q).1,(e3 q).2,wi,wrap32,Nat.mod_eq_of_lt (show q<4294967296 by omega),VX,Nat.reduceEqDiff,Nat.reduceAdd]
   exact⟨(i,Gk,os.set i q),by simp only;omega,by omega,rfl,aoW,ajK,by rw[List.length_set];exact jK,lZ lM (by omega),d1,d2,by (repeat' apply And.intro)<;>first | rfl | trivial⟩
 ·have Wh:j=0:=by omega
  subst Wh
  rw[List.drop_zero] at bH
  rw[Nat.pow_zero,Nat.one_mul,List.drop_zero] at hv
  simp only[oE,k8,k9,ZS,W0,Jt,B1,Di,hz,VX,Nat.reduceEqDiff,Nat.reduceAdd]
  exact hQ _ us os k8 k9 B1 Pl J7 jK lM hv bH
end Go.PM
namespace Go.PM
theorem ML {a n:Nat} (hn:(aC 4294967296 a).length=n+1):∃d,(aC 4294967296 a)[n]? = some d∧d≠0∧d<4294967296:=by
 obtain⟨d,hd⟩:∃d,(aC 4294967296 a)[n]? = some d:=⟨_,List.getElem?_eq_getElem (by omega)⟩
 refine⟨d,hd,fun h0 => ?_,fL (by decide) a d (List.mem_of_getElem? hd)⟩
 have:=O3 (b:=4294967296) (by decide) a
 rw[List.getLast?_eq_getElem?,hn,Nat.add_sub_cancel,hd,h0] at this
 exact this rfl
theorem TE {a d:Nat} (h:aC 4294967296 a=[d]):a=d∧0<d∧d<4294967296:=by
 have h1:=cM (b:=4294967296) (by decide) a
 rw[h,val_one] at h1
 obtain⟨e,h2,h3,h4⟩:=ML (a:=a) (n:=0) (by rw[h];rfl)
 rw[h] at h2
 cases h2
 exact⟨h1.symm,by omega,h4⟩
theorem zN (a b:Nat) (hb:b≠0) (ha:(aC 4294967296 a).length≤17592186044416) (vE:(aC 4294967296 b).length≤17592186044416):TC 183 [bS a,bS b] (.dR [bS (a / b),bS (a % b)]):=by
 refine TC.walk ⟨true,false⟩ Ij rfl (Nat.le_of_ble_eq_true rfl) (by simp[aP,cB]) (by simp[hC,qD,qX]) ?_
 have c1:=kL a b ha vE
 by_cases GH:eZ a b<0
 ·have bH:a<b:=by
   unfold eZ at GH
   split at GH
   ·assumption
   ·split at GH<;>omega
  simp only[tH,pN,c1,GH,VX,Nat.reduceEqDiff,Nat.reduceAdd]
  rw[Nat.div_eq_of_lt bH,Nat.mod_eq_of_lt bH]
  exact bZ (d:=6) xQ (aM (cB a))
 have CJ:b≤a:=by
  unfold eZ at GH
  split at GH
  ·omega
  ·omega
 have hbn:(aC 4294967296 b).length≠0:=fun h=>hb ((lU (b:=4294967296) (by decide)).1 (List.length_eq_zero_iff.1 h))
 by_cases h1:(((aC 4294967296 b).length:Nat):Int)=1
 ·obtain⟨d,hd⟩:∃d,aC 4294967296 b=[d]:=by
   match hx:aC 4294967296 b with
   | []=>rw[hx] at hbn;exact absurd rfl hbn
   | [d]=>exact⟨d,rfl⟩
   | _::_::_=>rw[hx] at h1;simp at h1;omega
  obtain⟨rfl,DZ,hdW⟩:=TE hd
  have c2:=wU a b DZ hdW ha
  have e0:oS (bS b) []=some (VI 1):=by rw[bS,BG,dY,hd];rfl
  have e1:bQ 1 (bS b) (VI 0) []=some (.cT (uV b) 0):=by
   rw[bS,hd]
   exact aJ (f:=uV) (t := .op) (H:=[]) (size:=1) (k := .i64) (xs:=[b]) (i:=0) rfl rfl
  have e2:=gW (H:=[]) (z:=[.int .u32 0]) (v:=uV (a % b)) rfl rfl rfl
  have e3:=aeY (size:=1) (v:=Value.int .u32 ((b:Nat):Int))
  simp only[tH,pN,c1,GH,e0,e1,c2,e2,VX,Nat.reduceEqDiff,Nat.reduceAdd]
  refine Ly (ds:=[a % b]) (t := .cl 1) (fun d hd => ?_) (by show 1≤70368744177664;decide) (val_one _) fun t' ht => ?_
  ·rw[List.mem_singleton] at hd
   subst hd
   exact Nat.lt_of_lt_of_le (Nat.mod_lt _ DZ) (Nat.le_of_lt hdW)
  ·simp only[VX,Nat.reduceEqDiff,Nat.reduceAdd]
   exact bZ (d:=6) (aM (cB _)) (afA (d:=5) ht)
 obtain⟨n,hn⟩:∃n,(aC 4294967296 b).length=n+2:=⟨(aC 4294967296 b).length-2,by omega⟩
 obtain⟨t,ht,ht0,htW⟩:=ML (a:=b) (n:=n+1) hn
 obtain⟨s,hs,cl,acS⟩:=VN ht0 htW
 have hS:0<2^s:=Nat.pow_pos (by decide)
 have hSW:2^s*2^(32-s)=4294967296:=by rw[←Nat.pow_add,show s+(32-s)=32 by omega]
 have hla:=eI (b:=4294967296) (by decide) CJ
 have e0:oS (bS b) []=some (VI ((n+2:Nat):Int)):=by rw[bS,BG,dY,hn]
 have w0:IntKind.i64.wrap (((n+2:Nat):Int)-1)=((n+1:Nat):Int):=wrapN _ (by omega) (by omega)
 have YX:¬(((n+2:Nat):Int)=1):=by omega
 have e1:bQ 1 (bS b) (VI ((n+1:Nat):Int)) []=some (.cT (uV t) 0):=aJ (f:=uV) (t := .op) (H:=[]) (size:=1) (k := .i64) ht rfl
 simp only[tH,pN,c1,GH,e0,YX,w0,e1,cl,VX,Nat.reduceEqDiff,Nat.reduceAdd]
 have fa:[bS a,VI (s:Int)].mapM (fz depth ([]:aA))=some [bS a,VI (s:Int)]:=fz2 (aL (cB a)) (aL rfl)
 refine FC.call (zZ a s hs ha) rfl fa ?_
 rintro r L ⟨Jw,rfl,rfl,hAl,hAd,hAv,hAt⟩
 simp only[VX,Nat.reduceEqDiff,Nat.reduceAdd]
 have fb:∀H:aA,[bS b,VI (s:Int)].mapM (fz depth H)=some [bS b,VI (s:Int)]:=fun H=>fz2 (aL (cB b)) (aL rfl)
 refine FC.call (zZ b s hs vE) rfl (fb _) ?_
 rintro r L ⟨E8,rfl,rfl,hBl,hBd,hBv,hBt⟩
 rw[hn] at hBl
 simp only[hn,List.length_singleton,VX,Nat.reduceEqDiff,Nat.reduceAdd]
 have anH:b*2^s<4294967296^(n+2):=by
  have h2:=(AN (n:=n+1) (fL (b:=4294967296) (by decide) b) hn ht).2
  rw[cM (by decide)] at h2
  have h3:b*2^s<(t+1)*4294967296^(n+1)*2^s:=Nat.mul_lt_mul_of_pos_right h2 hS
  have h4:(t+1)*4294967296^(n+1)*2^s=(t+1)*2^s*4294967296^(n+1):=by grind
  have h5:(t+1)*2^s≤4294967296:=by
   have h6:t*2^s<2^(32-s)*2^s:=by rw[Nat.mul_comm (2^(32-s)),hSW];exact acS
   have h7:=Nat.lt_of_mul_lt_mul_right h6
   have h8:(t+1)*2^s≤2^(32-s)*2^s:=Nat.mul_le_mul_right _ h7
   rwa [Nat.mul_comm (2^(32-s)),hSW] at h8
  have h9:(t+1)*2^s*4294967296^(n+1)≤4294967296*4294967296^(n+1):=Nat.mul_le_mul_right _ h5
  have h10:4294967296*4294967296^(n+1)=4294967296^(n+2):=by rw[Nat.pow_succ 4294967296 (n+1)];exact Nat.mul_comm _ _
  omega
 have hVl:(aC 4294967296 (b*2^s)).length=n+2:=by
  have h2:=mH (b:=4294967296) (by decide) anH
  have h3:b≤b*2^s:=Nat.le_mul_of_pos_right b hS
  have h4:=eI (b:=4294967296) (by decide) h3
  omega
 refine sF (rows:=E8) (m:=b*2^s) (by rfl) (by omega) (by omega) (by omega) (fun d hd=>hBd d (List.mem_of_mem_take hd)) (by rw[List.take_of_length_le (by omega)];exact hBv) fun k hk he => ?_
 have hk2:k=n+2:=by
  have:=congrArg List.length he
  rw[hVl,List.length_take] at this
  omega
 subst hk2
 generalize Rv:aC 4294967296 (b*2^s)=vs at *
 have HH:∀d∈vs,d<4294967296:=by rw[←Rv];exact fL (by decide) _
 have N2:val 4294967296 vs=b*2^s:=by rw[←Rv];exact cM (by decide) _
 obtain⟨v1,f1⟩:∃v1,vs[n+1]? = some v1:=⟨_,List.getElem?_eq_getElem (by omega)⟩
 obtain⟨v0,f0⟩:∃v0,vs[n]? = some v0:=⟨_,List.getElem?_eq_getElem (by omega)⟩
 have hv1:1≤v1:=by
  obtain⟨d,hd,DZ,_⟩:=ML (a:=b*2^s) (n:=n+1) (by rw[Rv];exact hVl)
  rw[Rv,f1] at hd
  cases hd
  omega
 have b1:E8[n+1]? = some v1:=by rw[←f1,←he,List.getElem?_take_of_lt (by omega)]
 have b0:E8[n]? = some v0:=by rw[←f0,←he,List.getElem?_take_of_lt (by omega)]
 have lv1:=HH v1 (List.mem_of_getElem? f1)
 have lv0:=HH v0 (List.mem_of_getElem? f0)
 have x1:bQ 1 (.ref 1 0 0 (n+2) (n+2+1)) (VI ((n+1:Nat):Int)) [.row 0 (Jw.map uV) 1 true,.row 0 (E8.map uV) 1 true]=some (.ptr 1 0 (n+1) 0):=by rw[bD (by rfl) (by omega),Nat.zero_add]
 have x0:bQ 1 (.ref 1 0 0 (n+2) (n+2+1)) (VI ((n:Nat):Int)) [.row 0 (Jw.map uV) 1 true,.row 0 (E8.map uV) 1 true]=some (.ptr 1 0 n 0):=by rw[bD (by rfl) (by omega),Nat.zero_add]
 have y1:bX false 1 (.ptr 1 0 (n+1) 0) [.row 0 (Jw.map uV) 1 true,.row 0 (E8.map uV) 1 true]=some (uV v1):=iT (rows:=E8) (g:=0) (w:=true) (by rfl) b1
 have y0:bX false 1 (.ptr 1 0 n 0) [.row 0 (Jw.map uV) 1 true,.row 0 (E8.map uV) 1 true]=some (uV v0):=iT (rows:=E8) (g:=0) (w:=true) (by rfl) b0
 have z0:oS (.ref 1 0 0 (n+2) (n+2+1)) [.row 0 (Jw.map uV) 1 true,.row 0 (E8.map uV) 1 true]=some (VI ((n+2:Nat):Int)):=dX (r:=(E8.map uV,1,true)) (by rfl)
 have z1:oS (.ref 0 0 0 ((aC 4294967296 a).length+1) ((aC 4294967296 a).length+1)) [.row 0 (Jw.map uV) 1 true,.row 0 (E8.map uV) 1 true]=some (VI (((aC 4294967296 a).length+1:Nat):Int)):=dX (r:=(Jw.map uV,1,true)) (by rfl)
 have w2:IntKind.i64.wrap (((n+2:Nat):Int)-2)=((n:Nat):Int):=wrapN _ (by omega) (by omega)
 have wv1:IntKind.u64.wrap (v1:Int)=(v1:Int):=eE _ (by omega)
 have wv0:IntKind.u64.wrap (v0:Int)=(v0:Int):=eE _ (by omega)
 obtain⟨m,hm⟩:∃m,m+(n+2)=(aC 4294967296 a).length+1:=⟨(aC 4294967296 a).length+1-(n+2),by omega⟩
 have wm:IntKind.i64.wrap ((((aC 4294967296 a).length+1:Nat):Int)-((n+2:Nat):Int))=(m:Int):=wrapN _ (by omega) (by omega)
 have wm1:IntKind.i64.wrap ((m:Int)-1)=(m:Int)-1:=wrap64 (by omega) (by omega)
 have mk:=W4 m 0 (by omega) (H:=[.row 0 (Jw.map uV) 1 true,.row 0 (E8.map uV) 1 true])
 have z2:oS (.ref 2 0 0 m m) (H3 Jw E8 (List.replicate m 0))=some (VI m):=dX (r:=((List.replicate m 0).map uV,1,true)) (by rfl)
 simp only[w0,x1,x0,y1,y0,z0,z1,w2,wv1,wv0,wm,mk,z2,wm1,List.length_cons,List.length_nil,VX,Nat.reduceEqDiff,Nat.reduceAdd]
 have CT:val 4294967296 (Jw.drop m)<val 4294967296 vs:=by
  obtain⟨d,hd⟩:∃d,Jw[(aC 4294967296 a).length]? = some d:=⟨_,List.getElem?_eq_getElem (by omega)⟩
  have h2:=(AN (b:=4294967296) (xs:=Jw.drop m) (n:=n+1) (t:=d) (fun x hx=>hAd x (List.mem_of_mem_drop hx)) (by rw[List.length_drop];omega) (by rw[List.getElem?_drop,show m+(n+1)=(aC 4294967296 a).length by omega];exact hd)).2
  have h3:=hAt d hd
  have h4:=(AN (n:=n+1) (fL (b:=4294967296) (by decide) b) hn ht).1
  rw[cM (by decide)] at h4
  have h5:(d+1)*4294967296^(n+1)≤2^s*4294967296^(n+1):=Nat.mul_le_mul_right _ h3
  have h6:1*4294967296^(n+1)≤t*4294967296^(n+1):=Nat.mul_le_mul_right _ (by omega)
  have h7:1*4294967296^(n+1)*2^s≤b*2^s:=Nat.mul_le_mul_right _ (by omega)
  rw[N2]
  rw[Nat.one_mul,Nat.mul_comm] at h7
  omega
 refine abB (E5:=Jw) (ws:=E8) (ZX:=List.replicate m 0) (vs:=vs) (N:=(aC 4294967296 a).length+1) (m:=m) (n:=n) (A:=a*2^s) (s:=s) hAl hm (by omega) hAd he hBl hVl HH f1 f0 hv1 hAv CT (by simp) (A0 (by decide) _) (by rfl) (by rfl) (by rfl) (by rfl) (by rfl) (by rfl) (by rfl) ?_
 intro xY us os r8 r9 Vy Pl J7 jK lM hv bH
 rw[N2] at hv bH
 have hq:val 4294967296 os=a / b:=by
  rw[←Nat.mul_div_mul_right a b hS,←hv,Nat.add_mul_div_left _ _ (by omega),Nat.div_eq_of_lt bH,Nat.zero_add]
 have hr:val 4294967296 us=a % b*2^s:=by
  rw[←Nat.mul_mod_mul_right,←hv,Nat.add_mul_mod_self_left,Nat.mod_eq_of_lt bH]
 simp only[r9,VX,Nat.reduceEqDiff,Nat.reduceAdd]
 refine sF (rows:=us) (m:=a % b*2^s) Dn (by omega) (Nat.le_refl _) (by omega) (fun d hd=>J7 d (List.mem_of_mem_take hd)) (by rw[List.take_of_length_le (by omega)];exact hr) fun k hk he2 => ?_
 have z3:oS (.ref 0 0 0 k ((aC 4294967296 a).length+1)) (H3 us E8 os)=some (VI k):=dX Dn
 simp only[z3,VX,Nat.reduceEqDiff,Nat.reduceAdd]
 refine ZF (us:=us) (k:=k) (N:=(aC 4294967296 a).length+1) (s:=s) (w0:=2^(32-s)) hs hSW Pl hk (by omega) J7 r8 (by rfl) (by rfl) (by rfl) ?_
 intro PX Gk q9 q13 aoW ajK UT
 have azV:PX 13 = .ref 2 0 0 m m:=q13.trans Vy
 have DD:val 4294967296 (Gk.take k)=a % b:=by
  rw[UT,he2,cM (by decide),Nat.mul_div_cancel _ hS]
 simp only[q9,azV,VX,Nat.reduceEqDiff,Nat.reduceAdd]
 refine sF (rows:=os) (m:=a / b) aiI (by omega) (Nat.le_refl _) (by omega) (fun d hd=>lM d (List.mem_of_mem_take hd)) (by rw[List.take_of_length_le (by omega)];exact hq) fun k2 hk2 he3 => ?_
 simp only[q9,VX,Nat.reduceEqDiff,Nat.reduceAdd]
 refine sF (rows:=Gk) (m:=a % b) Dn (by omega) hk (by omega) (fun d hd=>ajK d (List.mem_of_mem_take hd)) DD fun k3 hk3 he4 => ?_
 simp only[VX,Nat.reduceEqDiff,Nat.reduceAdd]
 exact bZ (d:=6) (Ld (d:=5) aiI (by omega) hk2 he3) (Ld (d:=5) Dn (by omega) (by omega) he4)
end Go.PM
namespace Go.PM
abbrev H2 (us os:List Nat):aA:=[.row 0 (us.map tV) 1 true,.row 0 (os.map tV) 1 true]
theorem US {us os:List Nat}:aF (H2 us os) 0 0=some (us.map tV,1,true):=rfl
theorem auB {us os:List Nat}:aF (H2 us os) 1 0=some (os.map tV,1,true):=rfl
theorem ajN {P a Z:Nat} {y:Int} (h:(a:Int)+(P:Int)*y=(Z:Int)) (ha:a<P) (hZ:Z<P):y=0∧a=Z:=by
 have hy:y=0:=by
  rcases Int.lt_trichotomy y 0 with h1 | h1 | h1
  ·have:(P:Int)*y≤(P:Int)*(-1):=Int.mul_le_mul_of_nonneg_left (by omega) (by omega)
   omega
  ·exact h1
  ·have:(P:Int)*1≤(P:Int)*y:=Int.mul_le_mul_of_nonneg_left (by omega) (by omega)
   omega
 subst hy
 rw[Int.mul_zero] at h
 exact⟨rfl,by omega⟩
theorem We {us:List Nat} {i n N V:Nat} (hN:us.length=N) (cS:i+n<N) (hd:∀d∈us,d<1000000000) (hV:V<1000000000^n) (CT:val 1000000000 (us.drop (i+1))<V) :
  us=us.take i++(us.drop i).take (n+1)++us.drop (i+(n+1))∧(us.take i).length=i∧((us.drop i).take (n+1)).length=n+1∧val 1000000000 ((us.drop i).take (n+1))<1000000000*V∧val 1000000000 (us.drop i)=val 1000000000 ((us.drop i).take (n+1))∧val 1000000000 (us.drop (i+(n+1)))=0∧∀j,j<n+1→((us.drop i).take (n+1))[j]? = us[i+j]? := by
 obtain⟨x,hx⟩:∃x,us[i]? = some x:=⟨_,List.getElem?_eq_getElem (by omega)⟩
 have lx:=hd x (List.mem_of_getElem? hx)
 have h1:=tB (b:=1000000000) hx
 have h2:val 1000000000 (us.drop i)<1000000000*V:=by
  have:1000000000*(val 1000000000 (us.drop (i+1))+1)≤1000000000*V:=Nat.mul_le_mul_left _ CT
  omega
 have h3:=pR (b:=1000000000) (us.drop i) (n+1)
 have h4:((us.drop i).take (n+1)).length=n+1:=by rw[List.length_take,List.length_drop];omega
 rw[h4,List.drop_drop] at h3
 have h5:val 1000000000 (us.drop (i+(n+1)))=0:=by
  rcases Nat.eq_zero_or_pos (val 1000000000 (us.drop (i+(n+1)))) with h | h
  ·exact h
  ·have h6:1000000000^(n+1)*1≤1000000000^(n+1)*val 1000000000 (us.drop (i+(n+1))):=Nat.mul_le_mul_left _ h
   have h7:1000000000*V≤1000000000^(n+1):=by rw[Nat.pow_succ,Nat.mul_comm];exact Nat.mul_le_mul_right _ (by omega)
   omega
 rw[h5,Nat.mul_zero,Nat.add_zero] at h3
 refine⟨?_,by rw[List.length_take];omega,h4,by omega,h3,h5,fun j hj => ?_⟩
 ·rw[List.append_assoc,←List.drop_drop,List.take_append_drop,List.take_append_drop]
 ·rw[List.getElem?_take_of_lt hj,List.getElem?_drop]
theorem leT {g:Nat} (h:(1000000000:Int)≤(g:Int)):1000000000≤g:=by omega
theorem afL {g:Nat} (h:¬(1000000000:Int)≤(g:Int)):g<1000000000:=by omega
theorem ltC {a b:Nat} (h:(a:Int)<(b:Int)):a<b:=by omega
theorem aA1 {a b:Nat} (h:¬(a:Int)<(b:Int)):b≤a:=by omega
theorem PY {a:Nat} (h:a*1000000000≤9223372036854775807):IntKind.i64.wrap ((a:Int)*1000000000)=((a*1000000000:Nat):Int):=wrapN _ (by omega) h
theorem PT {a b:Nat} (h:a+b≤9223372036854775807):IntKind.i64.wrap ((a:Int)+(b:Int))=((a+b:Nat):Int):=wrapN _ (by omega) h
theorem YE {a b:Nat} (h:a*b≤9223372036854775807):IntKind.i64.wrap ((a:Int)*(b:Int))=((a*b:Nat):Int):=wrapN _ (by simp) h
theorem x17 {a:Nat} (h:a<1000000000):a*1000000000≤9223372036854775807:=by omega
theorem x18 {a b:Nat} (h:a<1000000000) (hb:b<1000000000):a*1000000000+b≤1000000000000000000:=by omega
theorem SY {iK vs us os:List Nat} {n u2 u1 u0 v1 v0 N i g left:Nat} (G:wW 1000000000 iK vs n u2 u1 u0 v1 v0) {ρ:dL} {Q:VQ} (hN:us.length=N) (hiN:i+(n+2)<N) (Eh:N≤70368744177664) (hu0:us[i+n]? = some u0)
  (g13:ρ 13 = .ref 0 0 0 N N) (g14:ρ 14=iG vs) (g15:ρ 15=VI ((n+2:Nat):Int)) (g17:ρ 17=VI i) (g19:ρ 19=VI g) (g20:ρ 20=VI left) (hh:u2*1000000000+u1=g*v1+left) (hq:val 1000000000 iK / val 1000000000 vs≤g) (hl:left<1000000000) (hgb:g≤1000000000000000000)
  (hQ:∀(bL:dL) (g':Nat),val 1000000000 iK / val 1000000000 vs≤g'→g'≤val 1000000000 iK / val 1000000000 vs+1→g'<1000000000→bL 19=VI g'→bL 12=ρ 12→bL 13=ρ 13→bL 14=ρ 14→bL 15=ρ 15→bL 16=ρ 16→bL 17=ρ 17→Q (.exit 2) bL (H2 us os)) :
  VW ⟨true,false⟩ 0 (.loop gH) Q ρ (H2 us os):=by
 have lv1:=G.WV
 have lv0:=G.afS
 have lu0:=G.amW
 have qlt:=G.akR
 have lH:=G.pos
 have Fq:=G.Lr
 refine aU (fun(t:Nat×Nat) bL H=>H=H2 us os∧u2*1000000000+u1=t.1*v1+t.2∧val 1000000000 iK / val 1000000000 vs≤t.1∧t.2<1000000000∧t.1≤1000000000000000000 ∧
  bL 13 = .ref 0 0 0 N N∧bL 14=iG vs∧bL 15=VI ((n+2:Nat):Int)∧bL 17=VI i∧bL 19=VI t.1∧bL 20=VI t.2∧bL 12=ρ 12∧bL 16=ρ 16) (fun t=>1000000000-t.2) (g,left) ⟨rfl,hh,hq,hl,hgb,g13,g14,g15,g17,g19,g20,rfl,rfl⟩ ?_
 rintro⟨g,left⟩ PX H ⟨rfl,hh,hq,hl,hgb,B1,Di,Li,I4,k19,k20,Jt,k16⟩
 simp only at hh hq hl hgb k19 k20
 have f1:bQ 1 (iG vs) (VI ((n+1:Nat):Int)) (H2 us os)=some (.cT (tV v1) 0):=aJ (f:=tV) (t := .op) (size:=1) (k := .i64) G.f1 rfl
 have f0:bQ 1 (iG vs) (VI (n:Int)) (H2 us os)=some (.cT (tV v0) 0):=aJ (f:=tV) (t := .op) (size:=1) (k := .i64) G.f0 rfl
 have wn2:IntKind.i64.wrap (((n+2:Nat):Int)-2)=(n:Int):=wrapN _ (by omega) (by omega)
 have wn1:IntKind.i64.wrap (((n+2:Nat):Int)-1)=((n+1:Nat):Int):=wrapN _ (by omega) (by omega)
 have wi:IntKind.i64.wrap ((i:Int)+((n+2:Nat):Int))=((i+(n+2):Nat):Int):=wrapN _ (by omega) (by omega)
 have wi2:IntKind.i64.wrap (((i+(n+2):Nat):Int)-2)=((i+n:Nat):Int):=wrapN _ (by omega) (by omega)
 have e1:bQ 1 (.ref 0 0 0 N N) (VI ((i+n:Nat):Int)) (H2 us os)=some (.ptr 0 0 (i+n) 0):=by rw[bD US (by omega),Nat.zero_add]
 have e2:bX false 1 (.ptr 0 0 (i+n) 0) (H2 us os)=some (VI (u0:Int)):=NQ US hu0
 have wl:IntKind.i64.wrap ((left:Int)+(v1:Int))=((left+v1:Nat):Int):=wrapN _ (by omega) (by omega)
 have down:val 1000000000 iK / val 1000000000 vs<g→∃g',g=g'+1∧IntKind.i64.wrap ((g:Int)-1)=(g':Int)∧u2*1000000000+u1=g'*v1+(left+v1)∧val 1000000000 iK / val 1000000000 vs≤g':=by
  intro h
  have hg1:1≤g:=Nat.lt_of_le_of_lt (Nat.zero_le _) h
  obtain⟨g',rfl⟩:∃g',g=g'+1:=⟨g-1,by omega⟩
  refine⟨g',rfl,wrapN _ (by omega) (by omega),?_,by omega⟩
  rw[hh,Nat.add_mul]
  omega
 have hmu:∀g':Nat,left+v1<1000000000→1000000000-(g',left+v1).2<1000000000-(g,left).2:=fun g' h=>by
  show 1000000000-(left+v1)<1000000000-left
  omega
 have hle:∀g':Nat,g=g'+1→g'≤1000000000000000000:=fun g' h=>by
  omega
 have azN:left*1000000000+u0≤9223372036854775807:=Nat.le_trans (x18 hl lu0) (by decide)
 have aBo:left*1000000000≤9223372036854775807:=x17 hl
 have ws:IntKind.i64.wrap ((left:Int)*1000000000)=((left*1000000000:Nat):Int):=PY aBo
 have wa:IntKind.i64.wrap (((left*1000000000:Nat):Int)+(u0:Int))=((left*1000000000+u0:Nat):Int):=PT azN
 obtain⟨s13,s14,s15,s17⟩:PX 13=ρ 13∧PX 14=ρ 14∧PX 15=ρ 15∧PX 17=ρ 17:=⟨by rw[B1,g13],by rw[Di,g14],by rw[Li,g15],by rw[I4,g17]⟩
 by_cases hA:(1000000000:Int)≤(g:Int)
 ·have hA':=leT hA
  obtain⟨g',hg',wg,Vf,Om⟩:=down (Nat.lt_of_lt_of_le qlt hA')
  by_cases hB:(1000000000:Int)≤((left+v1:Nat):Int)
  ·obtain⟨c1,c2⟩:=G.broken Vf (leT hB)
   simp only[gH,B1,Di,Li,I4,k19,k20,hA,hB,f1,wn1,wg,wl,VX,Nat.reduceEqDiff,Nat.reduceAdd]
   exact hQ _ g' Om (G.Y5 Vf (Nat.le_of_lt c1) c2) c1 rfl Jt s13 s14 s15 k16 s17
  ·simp only[gH,B1,Di,Li,I4,k19,k20,hA,hB,f1,wn1,wg,wl,VX,Nat.reduceEqDiff,Nat.reduceAdd]
   refine⟨(g',left+v1),hmu g' (afL hB),Vf,Om,afL hB,hle g' hg',?_⟩
   exact⟨rfl,rfl,Jt,k16⟩
 ·have hA':=afL hA
  have hgv:g*v0≤999999999*999999999:=Nat.mul_le_mul (Nat.le_of_lt_succ hA') (Nat.le_of_lt_succ lv0)
  have wm:IntKind.i64.wrap ((g:Int)*(v0:Int))=((g*v0:Nat):Int):=YE (Nat.le_trans hgv (by decide))
  by_cases hT:((left*1000000000+u0:Nat):Int)<((g*v0:Nat):Int)
  ·obtain⟨g',hg',wg,Vf,Om⟩:=down (G.too hh (ltC hT))
   by_cases hB:(1000000000:Int)≤((left+v1:Nat):Int)
   ·obtain⟨c1,c2⟩:=G.broken Vf (leT hB)
    simp only[gH,B1,Di,Li,I4,k19,k20,hA,hB,hT,f1,f0,e1,e2,wn1,wn2,wi,wi2,ws,wa,wm,wg,wl,VX,Nat.reduceEqDiff,Nat.reduceAdd]
    exact hQ _ g' Om (G.Y5 Vf (Nat.le_of_lt c1) c2) c1 rfl Jt s13 s14 s15 k16 s17
   ·simp only[gH,B1,Di,Li,I4,k19,k20,hA,hB,hT,f1,f0,e1,e2,wn1,wn2,wi,wi2,ws,wa,wm,wg,wl,VX,Nat.reduceEqDiff,Nat.reduceAdd]
    refine⟨(g',left+v1),hmu g' (afL hB),Vf,Om,afL hB,hle g' hg',?_⟩
    exact⟨rfl,rfl,Jt,k16⟩
  ·simp only[gH,B1,Di,Li,I4,k19,k20,hA,hT,f0,e1,e2,wn2,wi,wi2,ws,wa,wm,VX,Nat.reduceEqDiff,Nat.reduceAdd]
   exact hQ _ g hq (G.Y5 hh (Nat.le_of_lt hA') (aA1 hT)) hA' k19 Jt s13 s14 s15 k16 s17
theorem Pa {E5 ZX vs:List Nat} {N m n v1 v0 A s:Nat} {ρ:dL} {Q:VQ} (hN:E5.length=N) (hm:m+(n+2)=N) (Eh:N≤70368744177664) (J7:∀d∈E5,d<1000000000) (Fq:vs.length=n+2) (HH:∀d∈vs,d<1000000000) (f1:vs[n+1]? = some v1) (f0:vs[n]? = some v0) (lH:1≤v1)
  (hA:val 1000000000 E5=A) (CT:val 1000000000 (E5.drop m)<val 1000000000 vs) (jK:ZX.length=m) (lM:∀d∈ZX,d<1000000000)
  (g12:ρ 12=VI s) (g13:ρ 13 = .ref 0 0 0 N N) (g14:ρ 14=iG vs) (g15:ρ 15=VI ((n+2:Nat):Int)) (g16:ρ 16 = .ref 1 0 0 m m) (g17:ρ 17=VI ((m:Int)-1))
  (hQ:∀(bL:dL) (us os:List Nat),bL 12=VI s→bL 13 = .ref 0 0 0 N N→bL 16 = .ref 1 0 0 m m→us.length=N→(∀d∈us,d<1000000000)→os.length=m→(∀d∈os,d<1000000000)→val 1000000000 us+val 1000000000 vs*val 1000000000 os=A→val 1000000000 us<val 1000000000 vs→Q (.exit 0) bL (H2 us os)) :
  VW ⟨true,false⟩ 0 (.loop iV) Q ρ (H2 E5 ZX):=by
 have hVb:=oW HH
 rw[Fq] at hVb
 refine aU (fun(t:Nat×List Nat×List Nat) bL H=>t.1≤m∧H=H2 t.2.1 t.2.2∧t.2.1.length=N∧(∀d∈t.2.1,d<1000000000)∧t.2.2.length=m∧(∀d∈t.2.2,d<1000000000)∧val 1000000000 (t.2.1.drop t.1)<val 1000000000 vs∧val 1000000000 t.2.1+1000000000^t.1*val 1000000000 vs*val 1000000000 (t.2.2.drop t.1)=A ∧
  bL 12=VI s∧bL 13 = .ref 0 0 0 N N∧bL 14=iG vs∧bL 15=VI ((n+2:Nat):Int)∧bL 16 = .ref 1 0 0 m m∧bL 17=VI ((t.1:Int)-1)) (fun t=>t.1) (m,E5,ZX) ⟨Nat.le_refl _,rfl,hN,J7,jK,lM,CT,by rw[List.drop_of_length_le (by simp only;omega)];simpa[val] using hA,g12,g13,g14,g15,g16,g17⟩ ?_
 rintro⟨j,us,os⟩ PX H ⟨hj,rfl,Pl,J7,jK,lM,bH,hv,Jt,B1,Di,Li,k16,I4⟩
 simp only at hj Pl J7 jK lM bH hv I4
 by_cases hz:(0:Int)≤(j:Int)-1
 ·obtain⟨i,rfl⟩:∃i,j=i+1:=⟨j-1,by omega⟩
  have GI:((i+1:Nat):Int)-1=(i:Int):=by omega
  rw[GI] at I4 hz
  obtain⟨Vg,Ak,Qe,hsW,adJ,abM,uC⟩:=We (n:=n+2) Pl (by omega) J7 hVb bH
  generalize Yg:(us.drop i).take (n+2+1)=iK at *
  have QU:∀d∈iK,d<1000000000:=fun d hd=>by rw[←Yg] at hd;exact J7 d (List.mem_of_mem_drop (List.mem_of_mem_take hd))
  obtain⟨u2,hu2⟩:∃u2,us[i+(n+2)]? = some u2:=⟨_,List.getElem?_eq_getElem (by omega)⟩
  obtain⟨u1,hu1⟩:∃u1,us[i+(n+1)]? = some u1:=⟨_,List.getElem?_eq_getElem (by omega)⟩
  obtain⟨u0,hu0⟩:∃u0,us[i+n]? = some u0:=⟨_,List.getElem?_eq_getElem (by omega)⟩
  have G:wW 1000000000 iK vs n u2 u1 u0 v1 v0:=⟨by decide,QU,HH,Qe,Fq,by rw[uC _ (by omega)];exact hu2,by rw[uC _ (by omega)];exact hu1,by rw[uC _ (by omega)];exact hu0,f1,f0,lH,hsW⟩
  have lu2:=G.alL
  have lu1:=G.abY
  have lv1:=G.WV
  have qlt:=G.akR
  have Jp:=G.Jp
  have w1:IntKind.i64.wrap ((i:Int)+((n+2:Nat):Int))=((i+(n+2):Nat):Int):=wrapN _ (by omega) (by omega)
  have w2:IntKind.i64.wrap (((i+(n+2):Nat):Int)-1)=((i+(n+1):Nat):Int):=wrapN _ (by omega) (by omega)
  have wn1:IntKind.i64.wrap (((n+2:Nat):Int)-1)=((n+1:Nat):Int):=wrapN _ (by omega) (by omega)
  have ev1:bQ 1 (iG vs) (VI ((n+1:Nat):Int)) (H2 us os)=some (.cT (tV v1) 0):=aJ (f:=tV) (t := .op) (size:=1) (k := .i64) f1 rfl
  have e2:bQ 1 (.ref 0 0 0 N N) (VI ((i+(n+2):Nat):Int)) (H2 us os)=some (.ptr 0 0 (i+(n+2)) 0):=by rw[bD US (by omega),Nat.zero_add]
  have e1:bQ 1 (.ref 0 0 0 N N) (VI ((i+(n+1):Nat):Int)) (H2 us os)=some (.ptr 0 0 (i+(n+1)) 0):=by rw[bD US (by omega),Nat.zero_add]
  have l2:bX false 1 (.ptr 0 0 (i+(n+2)) 0) (H2 us os)=some (VI (u2:Int)):=NQ US hu2
  have l1:bX false 1 (.ptr 0 0 (i+(n+1)) 0) (H2 us os)=some (VI (u1:Int)):=NQ US hu1
  have aBq:u2*1000000000+u1≤1000000000000000000:=x18 lu2 lu1
  have azQ:u2*1000000000≤9223372036854775807:=x17 lu2
  have atN:u2*1000000000+u1≤9223372036854775807:=Nat.le_trans aBq (by decide)
  have ws2:IntKind.i64.wrap ((u2:Int)*1000000000)=((u2*1000000000:Nat):Int):=PY azQ
  have wa:IntKind.i64.wrap (((u2*1000000000:Nat):Int)+(u1:Int))=((u2*1000000000+u1:Nat):Int):=PT atN
  have q1:=Lh (u2*1000000000+u1) v1 atN lH
  have q2:=Mv (u2*1000000000+u1) v1 lH
  simp only[iV,Jt,B1,Di,Li,k16,I4,hz,w1,w2,wn1,ev1,e1,e2,l1,l2,ws2,wa,q1,q2,VX,Nat.reduceEqDiff,Nat.reduceAdd]
  clear ws2 wa q1 q2 e1 e2 l1 l2 ev1 w1 w2 wn1
  have hh:=Nat.mod_add_div (u2*1000000000+u1) v1
  have hml:=Nat.mod_lt (u2*1000000000+u1) lH
  have Uv:(u2*1000000000+u1) / v1≤u2*1000000000+u1:=Nat.div_le_self _ _
  have Ry:val 1000000000 iK / val 1000000000 vs≤(u2*1000000000+u1) / v1:=by
   have t1:=(Et (n:=n+1) (xs:=iK) QU (by omega) (by rw[uC _ (by omega)];exact hu2) (by rw[uC _ (by omega)];exact hu1)).2
   have t2:=(AN (n:=n+1) HH Fq f1).1
   rw[Nat.le_div_iff_mul_le lH]
   have t3:val 1000000000 iK / val 1000000000 vs*(v1*1000000000^(n+1))≤val 1000000000 iK / val 1000000000 vs*val 1000000000 vs:=Nat.mul_le_mul_left _ t2
   have t4:=Nat.div_mul_le_self (val 1000000000 iK) (val 1000000000 vs)
   have t5:val 1000000000 iK / val 1000000000 vs*v1*1000000000^(n+1)<(u2*1000000000+u1+1)*1000000000^(n+1):=by rw[Nat.mul_assoc];omega
   have:=Nat.lt_of_mul_lt_mul_right t5
   omega
  generalize hQ1:(u2*1000000000+u1) / v1=g0 at *
  generalize hQ2:(u2*1000000000+u1) % v1=l0 at *
  refine SY (i:=i) G Pl (by omega) Eh hu0 B1 Di Li I4 (by rfl) (by rfl) (by rw[Nat.mul_comm g0];omega) Ry (by omega) (by omega) ?_
  intro Vs g' hq Om hgW r19 r12 Vy r14 r15 r16 r17
  have Te:Vs 12=VI s:=r12.trans Jt
  have S3:Vs 13 = .ref 0 0 0 N N:=Vy.trans B1
  have SB:Vs 14=iG vs:=r14.trans Di
  have Sj:Vs 15=VI ((n+2:Nat):Int):=r15.trans Li
  have aiO:Vs 16 = .ref 1 0 0 m m:=r16.trans k16
  have ajC:Vs 17=VI i:=r17.trans I4
  simp only[Te,S3,SB,Sj,aiO,ajC,r19,VX,Nat.reduceEqDiff,Nat.reduceAdd]
  have rP:g'*val 1000000000 vs≤val 1000000000 iK+val 1000000000 vs:=by
   have:=Nat.mul_le_mul_right (val 1000000000 vs) Om
   rw[Nat.add_mul,Nat.one_mul] at this
   have:=Nat.div_mul_le_self (val 1000000000 iK) (val 1000000000 vs)
   omega
  obtain⟨low,anQ⟩:∃low,low=iK.take (n+2):=⟨_,rfl⟩
  have hll:low.length=n+2:=by rw[anQ,List.length_take];omega
  have hld:∀d∈low,d<1000000000:=fun d hd=>QU d (by rw[anQ] at hd;exact List.mem_of_mem_take hd)
  have hsg:iK=low++[u2]:=by
   have h1:iK[n+2]? = some u2:=by rw[uC _ (by omega)];exact hu2
   have h2:=List.take_append_drop (n+2) iK
   have h3:=(List.getElem?_eq_some_iff.1 h1)
   rw[List.drop_eq_getElem_cons h3.1,h3.2,List.drop_of_length_le (by omega),←anQ] at h2
   exact h2.symm
  have Rv:val 1000000000 iK=val 1000000000 low+1000000000^(n+2)*u2:=by rw[hsg,sI,hll]
  have nD:∀(lw:List Nat) (t:Nat),(us.take i).map tV++lw.map tV++VI (t:Int)::(us.drop (i+(n+2+1))).map tV=(us.take i++(lw++[t])++us.drop (i+(n+2+1))).map tV:=fun lw t=>by simp
  have qQ:aF (H2 us os) 0 0=some ((us.take i).map tV++low.map tV++VI (u2:Int)::(us.drop (i+(n+2+1))).map tV,1,true):=by
   rw[nD,←hsg,←Vg]
   rfl
  refine fG rfl ((YJ (o:=i) (n:=n+2) qQ (Nat.zero_le _) (by simpa using Ak) hll Fq (by omega) Eh hld HH hgW lu2).mono ?_)
  rintro r H' ⟨BR,c,rfl,Co,YU,hc,hr,hE⟩
  have aCj:val 1000000000 low<1000000000^(n+2):=by have:=oW hld;rwa [hll] at this
  have azK:val 1000000000 BR<1000000000^(n+2):=by have:=oW YU;rwa [Co] at this
  have rows:∀(lw:List Nat) (t q:Nat),lw.length=n+2→(∀d∈lw,d<1000000000)→t<1000000000→q=val 1000000000 iK / val 1000000000 vs→val 1000000000 lw+1000000000^(n+2)*t=val 1000000000 iK % val 1000000000 vs →
    ((us.take i++(lw++[t])++us.drop (i+(n+2+1))).length=N∧(∀d∈us.take i++(lw++[t])++us.drop (i+(n+2+1)),d<1000000000)∧val 1000000000 ((us.take i++(lw++[t])++us.drop (i+(n+2+1))).drop i)<val 1000000000 vs∧val 1000000000 (us.take i++(lw++[t])++us.drop (i+(n+2+1)))+1000000000^i*val 1000000000 vs*val 1000000000 ((os.set i q).drop i)=A):=by
   intro lw t q hlw azG ht RA hse
   have amN:val 1000000000 (lw++[t])=val 1000000000 iK % val 1000000000 vs:=by rw[sI,hlw];exact hse
   have azR:(lw++[t]).length=n+3:=by rw[List.length_append,hlw];rfl
   have aAe:∀d∈lw++[t],d<1000000000:=fun d hd=>by
    rcases List.mem_append.1 hd with h | h
    ·exact azG d h
    ·rw[List.mem_singleton.1 h];exact ht
   generalize lw++[t]=rW at *
   have ahZ:=Nat.mod_lt (val 1000000000 iK) Jp
   have U5:(us.take i++rW++us.drop (i+(n+2+1))).drop i=rW++us.drop (i+(n+2+1)):=by rw[List.append_assoc,List.drop_append,List.drop_of_length_le (by omega),Ak];simp
   have UF:(us.take i++rW++us.drop (i+(n+2+1))).take i=us.take i:=by rw[List.append_assoc,List.take_append_of_le_length (by omega),List.take_of_length_le (by omega)]
   have RI:val 1000000000 ((us.take i++rW++us.drop (i+(n+2+1))).drop i)=val 1000000000 rW:=by rw[U5,yO,abM,Nat.mul_zero,Nat.add_zero]
   refine⟨by rw[List.length_append,List.length_append,Ak,azR,List.length_drop];omega,fun d hd => ?_,by rw[RI,amN];exact ahZ,?_⟩
   ·rw[List.mem_append,List.mem_append] at hd
    rcases hd with(hd | hd) | hd
    ·exact J7 d (List.mem_of_mem_take hd)
    ·exact aAe d hd
    ·exact J7 d (List.mem_of_mem_drop hd)
   ·have h1:=Nat.div_add_mod (val 1000000000 iK) (val 1000000000 vs)
    rw[←RA,←amN,Nat.mul_comm] at h1
    have h2:=pR (b:=1000000000) us i
    have h3:=pR (b:=1000000000) (us.take i++rW++us.drop (i+(n+2+1))) i
    rw[UF,Ak,RI] at h3
    rw[Ak,adJ] at h2
    rw[set_drop (by omega),sX,h3]
    rw[h2,Nat.pow_succ] at hv
    exact Mj h1.symm hv
  have e3:∀(Gk:List Nat) (d:Nat),bQ 1 (.ref 1 0 0 m m) (VI i) (H2 Gk os)=some (.ptr 1 0 i 0)∧bI 0 1 (.ptr 1 0 i 0) (VI (d:Int)) (H2 Gk os)=some (H2 Gk (os.set i d)):=fun Gk d=>by
   refine⟨by rw[bD auB (by omega),Nat.zero_add],?_⟩
   rw[show VI (d:Int)=tV d from rfl,fA (f:=tV) (e:=1) auB (by omega) (Nat.zero_le _) rfl rfl]
   rfl
  have wi:IntKind.i64.wrap ((i:Int)-1)=(i:Int)-1:=wrap64 (by omega) (by omega)
  have hdm:=Nat.div_add_mod (val 1000000000 iK) (val 1000000000 vs)
  have ahZ:=Nat.mod_lt (val 1000000000 iK) Jp
  generalize hPP:1000000000^(n+2)=P at *
  by_cases mX:(u2:Int)-(c:Int)<0
  ·
   rw[decide_eq_true mX] at hr
   subst hr
   have hgt:val 1000000000 iK<g'*val 1000000000 vs:=by
    have h1:P*(u2+1)≤P*c:=Nat.mul_le_mul_left _ (by omega)
    rw[Nat.mul_add,Nat.mul_one] at h1
    omega
   have RA:g'=val 1000000000 iK / val 1000000000 vs+1:=by
    rcases Nat.lt_or_ge (val 1000000000 iK / val 1000000000 vs) g' with h | h
    ·omega
    ·have h1:g'*val 1000000000 vs≤val 1000000000 iK / val 1000000000 vs*val 1000000000 vs:=Nat.mul_le_mul_right _ h
     have:=Nat.div_mul_le_self (val 1000000000 iK) (val 1000000000 vs)
     omega
   have hg1:1≤g':=by rw[RA];exact Nat.le_add_left 1 _
   have wg:IntKind.i64.wrap ((g':Int)-1)=((g'-1:Nat):Int):=wrapN _ (by omega) (by omega)
   simp only[Te,S3,SB,Sj,aiO,ajC,r19,wg,VX,Nat.reduceEqDiff,Nat.reduceAdd]
   have KH:aF ((H2 us os).set 0 (.row 0 ((us.take i).map tV++BR.map tV++VI ((u2:Int)-(c:Int))::(us.drop (i+(n+2+1))).map tV) 1 true)) 0 0=some ((us.take i).map tV++BR.map tV++VI ((u2:Int)-(c:Int))::(us.drop (i+(n+2+1))).map tV,1,true):=rfl
   refine fG rfl ((ZO (o:=i) (n:=n+2) KH (Nat.zero_le _) (by simpa using Ak) Co Fq (by omega) Eh YU HH (by omega) (by omega)).mono ?_)
   rintro r H' ⟨UR,c2,rfl,Dq,hd2,hc2,hE2⟩
   rw[hPP] at hE2
   have aqR:val 1000000000 UR<P:=by have:=oW hd2;rwa [Dq,hPP] at this
   obtain⟨hy,hZ⟩:(u2:Int)-(c:Int)+(c2:Int)=0∧val 1000000000 UR=val 1000000000 iK % val 1000000000 vs:=by
    refine ajN (P:=P) ?_ aqR (by omega)
    have i1:(P:Int)*((u2:Int)-(c:Int)+(c2:Int))=(P:Int)*u2-(P:Int)*c+(P:Int)*c2:=by rw[Int.mul_add,Int.mul_sub]
    have i2:((P*u2:Nat):Int)=(P:Int)*u2:=by simp
    have i3:((P*c:Nat):Int)=(P:Int)*c:=by simp
    have i4:((P*c2:Nat):Int)=(P:Int)*c2:=by simp
    rw[i1,←i2,←i3,←i4]
    have i5:g'*val 1000000000 vs=val 1000000000 vs*(val 1000000000 iK / val 1000000000 vs)+val 1000000000 vs:=by rw[RA,Nat.add_mul,Nat.one_mul,Nat.mul_comm (val 1000000000 vs)]
    omega
   have I9:((H2 us os).set 0 (.row 0 ((us.take i).map tV++BR.map tV++VI ((u2:Int)-(c:Int))::(us.drop (i+(n+2+1))).map tV) 1 true)).set 0 (.row 0 ((us.take i).map tV++UR.map tV++VI ((u2:Int)-(c:Int)+(c2:Int))::(us.drop (i+(n+2+1))).map tV) 1 true)=H2 (us.take i++(UR++[0])++us.drop (i+(n+2+1))) os:=by
    rw[hy]
    rw[show (0:Int)=((0:Nat):Int) from rfl,nD]
    rfl
   rw[I9]
   obtain⟨x1,x2⟩:=e3 (us.take i++(UR++[0])++us.drop (i+(n+2+1))) (g'-1)
   obtain⟨y1,y2,y3,y4⟩:=rows UR 0 (g'-1) Dq hd2 (by decide) (by rw[RA,Nat.add_sub_cancel]) (by rw[Nat.mul_zero,Nat.add_zero];exact hZ)
   simp only[Te,S3,SB,Sj,aiO,ajC,x1,x2,wi,VX,Nat.reduceEqDiff,Nat.reduceAdd]
   refine⟨(i,us.take i++(UR++[0])++us.drop (i+(n+2+1)),os.set i (g'-1)),by simp only;omega,by omega,rfl,y1,y2,by rw[List.length_set];exact jK,lZ lM (by omega),y3,y4,?_⟩
   try (repeat' apply And.intro)<;>first | rfl | trivial
  ·rw[decide_eq_false mX] at hr
   subst hr
   obtain⟨t',ht'⟩:∃t':Nat,(u2:Int)-(c:Int)=(t':Int):=⟨u2-c,by omega⟩
   have hP1:P*u2=P*c+P*t':=by rw[←Nat.mul_add];congr 1;omega
   have CJ:g'*val 1000000000 vs≤val 1000000000 iK:=by omega
   have RA:g'=val 1000000000 iK / val 1000000000 vs:=by
    have:=(Nat.le_div_iff_mul_le Jp).2 CJ
    omega
   have I9:(H2 us os).set 0 (.row 0 ((us.take i).map tV++BR.map tV++VI ((u2:Int)-(c:Int))::(us.drop (i+(n+2+1))).map tV) 1 true)=H2 (us.take i++(BR++[t'])++us.drop (i+(n+2+1))) os:=by
    rw[ht',nD]
    rfl
   rw[I9]
   obtain⟨x1,x2⟩:=e3 (us.take i++(BR++[t'])++us.drop (i+(n+2+1))) g'
   have hse:val 1000000000 BR+P*t'=val 1000000000 iK % val 1000000000 vs:=by
    rw[←RA,Nat.mul_comm] at hdm
    omega
   obtain⟨y1,y2,y3,y4⟩:=rows BR t' g' Co YU (by omega) RA hse
   simp only[Te,S3,SB,Sj,aiO,ajC,r19,x1,x2,wi,VX,Nat.reduceEqDiff,Nat.reduceAdd]
   refine⟨(i,us.take i++(BR++[t'])++us.drop (i+(n+2+1)),os.set i g'),by simp only;omega,by omega,rfl,y1,y2,by rw[List.length_set];exact jK,lZ lM (by omega),y3,y4,?_⟩
   try (repeat' apply And.intro)<;>first | rfl | trivial
 ·have Wh:j=0:=by omega
  subst Wh
  rw[Nat.pow_zero,Nat.one_mul,List.drop_zero] at hv
  rw[List.drop_zero] at bH
  simp only[iV,Jt,B1,Di,Li,k16,I4,hz,VX,Nat.reduceEqDiff,Nat.reduceAdd]
  exact hQ _ us os Jt B1 k16 Pl J7 jK lM hv bH
end Go.PM
namespace Go.PM
def bl (n:Nat):Nat:=(aC 2 n).length
theorem O0 (n:Nat):n<2^bl n:=gR (by decide) n
theorem G5 {n k:Nat} (h:n<2^k):bl n≤k:=mH (by decide) h
theorem kP {m n:Nat} (h:m≤n):bl m≤bl n:=eI (by decide) h
theorem nX (m n:Nat):bl (m*n)≤bl m+bl n:=by
 refine G5 ?_
 rw[Nat.pow_add]
 exact Nat.mul_lt_mul'' (O0 m) (O0 n)
theorem Hn {n k:Nat} (h:bl n≤k):n<2^k:=Nat.lt_of_lt_of_le (O0 n) (Nat.pow_le_pow_right (by decide) h)
theorem U6 {m n k:Nat} (hm:bl m≤k) (hn:bl n≤k):bl (m+n)≤k+1:=by
 refine G5 ?_
 have h1:=Hn hm
 have h2:=Hn hn
 rw[Nat.pow_succ]
 omega
theorem WG:bl 0=0:=by simp[bl,cH]
theorem MZ:bl 1=1:=by simp[bl,jI (b:=2) (by decide) (n:=1) (by decide),cH]
theorem agP {n:Nat} (h:n≠0):1≤bl n:=by
 have:=kP (m:=1) (n:=n) (by omega)
 rwa [MZ] at this
theorem amJ (n:Nat):32*(aC 4294967296 n).length≤bl n+31:=by
 by_cases h:n=0
 ·subst h;rw[cH];simp
 ·have h1:=La (b:=4294967296) (by decide) h
  have h2:=O0 n
  have e:(4294967296:Nat)=2^32:=by decide
  rw[e] at h1 ⊢
  rw[←Nat.pow_mul] at h1
  have h3:2^(32*((aC (2^32) n).length-1))<2^bl n:=by omega
  have h4:=(Nat.pow_lt_pow_iff_right (by decide)).1 h3
  omega
theorem alB (n:Nat):29*(aC 1000000000 n).length≤bl n+28:=by
 by_cases h:n=0
 ·subst h;rw[cH];simp
 ·have h1:=La (b:=1000000000) (by decide) h
  have h2:=O0 n
  have h5:(2^29)^((aC 1000000000 n).length-1)≤1000000000^((aC 1000000000 n).length-1):=Nat.pow_le_pow_left (by decide) _
  rw[←Nat.pow_mul] at h5
  have h3:2^(29*((aC 1000000000 n).length-1))<2^bl n:=by omega
  have h4:=(Nat.pow_lt_pow_iff_right (by decide)).1 h3
  omega
def bP (q:Rat):Nat:=max (bl q.num.natAbs) (bl q.den)
theorem sG {q:Rat}:bl q.num.natAbs≤bP q:=Nat.le_max_left _ _
theorem pZ {q:Rat}:bl q.den≤bP q:=Nat.le_max_right _ _
theorem Pm {q:Rat}:1≤bP q:=Nat.le_trans (agP q.den_nz) pZ
theorem Sx {q:Rat} {k:Nat} (h1:bl q.num.natAbs≤k) (h2:bl q.den≤k):bP q≤k:=Nat.max_le.2 ⟨h1,h2⟩
theorem Hi {n:Int} {d k:Nat} (h1:bl n.natAbs≤k) (h2:bl d≤k) (hk:1≤k):bP (mkRat n d)≤k:=by
 refine Sx ?_ ?_
 ·rw[Rat.num_mkRat]
  split
  ·rw[Int.natAbs_zero,WG];omega
  ·exact Nat.le_trans (kP (Int.natAbs_ediv_le_natAbs _ _)) h1
 ·rw[Rat.den_mkRat]
  split
  ·rw[MZ];exact hk
  ·exact Nat.le_trans (kP (Nat.div_le_self _ _)) h2
theorem E2 (a b:Rat):bP (a+b)≤bP a+bP b+1:=by
 rw[Rat.add_def']
 have h1 := @sG a
 have h2 := @sG b
 have h3 := @pZ a
 have h4 := @pZ b
 have h5:=nX a.num.natAbs b.den
 have h6:=nX b.num.natAbs a.den
 have h7:=nX a.den b.den
 refine Hi ?_ (by omega) (by omega)
 have h8:(a.num*b.den+b.num*a.den).natAbs≤a.num.natAbs*b.den+b.num.natAbs*a.den:=by
  refine Nat.le_trans (Int.natAbs_add_le _ _) ?_
  rw[Int.natAbs_mul,Int.natAbs_mul,Int.natAbs_natCast,Int.natAbs_natCast]
  exact Nat.le_refl _
 exact Nat.le_trans (kP h8) (U6 (by omega) (by omega))
theorem Zj (a b:Rat):bP (a*b)≤bP a+bP b:=by
 rw[Rat.mul_def']
 have h1 := @sG a
 have h2 := @sG b
 have h3 := @pZ a
 have h4 := @pZ b
 have h5:=nX a.num.natAbs b.num.natAbs
 have h7:=nX a.den b.den
 have h8 := @Pm a
 refine Hi ?_ (by omega) (by omega)
 rw[Int.natAbs_mul]
 omega
theorem IJ (a:Rat):bP (-a)=bP a:=by simp[bP]
theorem Ye (a b:Rat):bP (a-b)≤bP a+bP b+1:=by
 rw[Rat.sub_eq_add_neg]
 have:=E2 a (-b)
 rwa [IJ] at this
theorem PC (a:Rat):bP a⁻¹≤bP a:=by
 have h1 := @sG a
 have h2 := @pZ a
 refine Sx ?_ ?_
 ·rw[Rat.num_inv,Int.natAbs_mul,Int.natAbs_natCast]
  refine Nat.le_trans (kP ?_) h2
  have h3:a.num.sign.natAbs≤1:=by
   rcases Int.lt_trichotomy a.num 0 with h | h | h
   ·rw[Int.sign_eq_neg_one_of_neg h];decide
   ·rw[h];decide
   ·rw[Int.sign_eq_one_of_pos h];decide
  have:=Nat.mul_le_mul_right a.den h3
  omega
 ·rw[Rat.den_inv]
  split
  ·rw[MZ];exact Pm
  ·exact h1
theorem EY (a b:Rat):bP (a / b)≤bP a+bP b:=by
 rw[Rat.div_def]
 have:=Zj a b⁻¹
 have:=PC b
 omega
theorem uL:bP 0=1:=by simp[bP,WG,MZ]
theorem I2:bP 1=1:=by simp[bP,MZ]
def kT (neg:Bool) (t:Nat):Int:=if neg then -(t:Int) else t
theorem oB (neg:Bool) (t:Nat):(kT neg t).natAbs=t:=by cases neg<;>simp[kT]
theorem Q3 {neg:Bool} {t:Nat}:kT neg t<0↔neg=true∧t≠0:=by cases neg<;>simp[kT]<;>omega
theorem zD (neg:Bool):kT neg 0=0:=by cases neg<;>rfl
theorem Hc (z:Int):kT (decide (z<0)) z.natAbs=z:=by
 by_cases h:z<0<;>simp[kT,h]<;>omega
theorem akE {neg:Bool} {t g:Nat}:(kT neg t) / (g:Int)=kT neg (t / g)∨¬g ∣ t:=by
 by_cases h:g ∣ t
 ·left
  obtain⟨k,rfl⟩:=h
  by_cases hg:g=0
  ·subst hg;simp[zD]
  ·rw[Nat.mul_div_cancel_left _ (by omega)]
   cases neg
   ·simp only[kT]
    simp only[Bool.false_eq_true,if_false]
    rw[Int.natCast_mul,Int.mul_ediv_cancel_left _ (by omega)]
   ·simp only[kT,if_true]
    rw[Int.natCast_mul,←Int.mul_neg,Int.mul_ediv_cancel_left _ (by omega)]
 ·exact .inr h
theorem Ga {neg:Bool} {t b:Nat} (hb:b≠0):(mkRat (kT neg t) b).num=kT neg (t / Nat.gcd t b):=by
 rw[Rat.num_mkRat,if_neg hb,oB,Nat.gcd_comm]
 rcases akE (neg:=neg) (t:=t) (g:=Nat.gcd t b) with h | h
 ·exact h
 ·exact absurd (Nat.gcd_dvd_left _ _) h
theorem Q2 {neg:Bool} {t b:Nat} (hb:b≠0):(mkRat (kT neg t) b).den=b / Nat.gcd t b:=by
 rw[Rat.den_mkRat,if_neg hb,oB,Nat.gcd_comm]
theorem K0 (q:Rat):mkRat (kT (decide (q.num<0)) q.num.natAbs) q.den=q:=by rw[Hc,Rat.mkRat_self]
end Go.PM
namespace Go.PM
theorem aiZ (neg:Bool) (t d:Nat):kT neg (t*d)=kT neg t*(d:Int):=by cases neg<;>simp[kT,Int.neg_mul]
theorem EK (q:Rat) {d:Nat} (hd:d≠0):mkRat (kT (decide (q.num<0)) (q.num.natAbs*d)) (q.den*d)=q:=by
 rw[aiZ,Rat.mkRat_mul_right hd,K0]
theorem Dx (X Y:Int) {B:Nat} (hB:B≠0):mkRat X B+mkRat Y B=mkRat (X+Y) B:=by
 rw[Rat.mkRat_add_mkRat _ _ hB hB,←Int.add_mul,Rat.mkRat_mul_right hB]
theorem Qy (n:Bool) (x y:Nat):kT n x+kT n y=kT n (x+y):=by cases n<;>simp[kT]<;>omega
theorem UU {m n:Bool} (h:m≠n) {x y:Nat} (hx:y≤x):kT m x+kT n y=kT m (x-y):=by
 cases m<;>cases n<;>simp_all [kT]<;>omega
theorem UX {m n:Bool} (h:m≠n) {x y:Nat} (hx:x≤y):kT m x+kT n y=kT n (y-x):=by
 cases m<;>cases n<;>simp_all [kT]<;>omega
theorem Qn (n:Int) {d:Nat} (hd:d≠0):(mkRat n d).num.natAbs=n.natAbs / Nat.gcd n.natAbs d:=by
 have:=Ga (neg:=decide (n<0)) (t:=n.natAbs) (b:=d) hd
 rw[Hc] at this
 rw[this,oB]
theorem Lb (n:Int) {d:Nat} (hd:d≠0):(mkRat n d).den=d / Nat.gcd n.natAbs d:=by
 have:=Q2 (neg:=decide (n<0)) (t:=n.natAbs) (b:=d) hd
 rwa [Hc] at this
theorem apL (n:Int) {d:Nat} (hd:d≠0):(mkRat n d).num<0↔n<0:=by
 have:=Ga (neg:=decide (n<0)) (t:=n.natAbs) (b:=d) hd
 rw[Hc] at this
 rw[this,Q3]
 have h:n<0→n.natAbs / Nat.gcd n.natAbs d≠0:=fun h=>by
  have:=Nat.div_pos (Nat.le_of_dvd (by omega) (Nat.gcd_dvd_left n.natAbs d)) (Nat.gcd_pos_of_pos_left d (show 0<n.natAbs by omega))
  omega
 constructor
 ·rintro⟨h1,_⟩;simpa using h1
 ·intro h1;exact⟨by simpa using h1,h h1⟩
theorem Cx (t:Nat) {d:Nat} (hd:d≠0):(mkRat (kT false t) d).num.natAbs ∣ t∧(mkRat (kT false t) d).den ∣ d:=by
 rw[Qn _ hd,Lb _ hd,oB]
 exact⟨Nat.div_dvd_of_dvd (Nat.gcd_dvd_left _ _),Nat.div_dvd_of_dvd (Nat.gcd_dvd_right _ _)⟩
theorem Zv (a b:Rat):(a*b).num.natAbs=(mkRat (kT false a.num.natAbs) b.den).num.natAbs*(mkRat (kT false b.num.natAbs) a.den).num.natAbs ∧
  (a*b).den=(mkRat (kT false a.num.natAbs) b.den).den*(mkRat (kT false b.num.natAbs) a.den).den:=by
 have ha:=a.den_nz
 have hb:=b.den_nz
 have GH:a.den*b.den≠0:=Nat.mul_ne_zero ha hb
 obtain⟨u1,u2⟩:=Cx a.num.natAbs hb
 obtain⟨v1,v2⟩:=Cx b.num.natAbs ha
 have e:(mkRat (kT false a.num.natAbs) b.den)*(mkRat (kT false b.num.natAbs) a.den)=mkRat (kT false a.num.natAbs*kT false b.num.natAbs) (b.den*a.den):=Rat.mkRat_mul_mkRat _ _ _ _
 have en:((mkRat (kT false a.num.natAbs) b.den)*(mkRat (kT false b.num.natAbs) a.den)).num.natAbs=(a*b).num.natAbs:=by
  rw[e,Rat.mul_def',Qn _ GH,Qn _ (Nat.mul_ne_zero hb ha),Int.natAbs_mul,Int.natAbs_mul,oB,oB,Nat.mul_comm b.den]
 have ed:((mkRat (kT false a.num.natAbs) b.den)*(mkRat (kT false b.num.natAbs) a.den)).den=(a*b).den:=by
  rw[e,Rat.mul_def',Lb _ GH,Lb _ (Nat.mul_ne_zero hb ha),Int.natAbs_mul,Int.natAbs_mul,oB,oB,Nat.mul_comm b.den]
 rw[←en,←ed]
 generalize hu:mkRat (kT false a.num.natAbs) b.den=u at *
 generalize hv:mkRat (kT false b.num.natAbs) a.den=v at *
 have c1:Nat.Coprime u.num.natAbs u.den:=u.reduced
 have c2:Nat.Coprime v.num.natAbs v.den:=v.reduced
 have c3:Nat.Coprime u.num.natAbs v.den:=Nat.Coprime.coprime_dvd_left u1 (Nat.Coprime.coprime_dvd_right v2 a.reduced)
 have c4:Nat.Coprime v.num.natAbs u.den:=Nat.Coprime.coprime_dvd_left v1 (Nat.Coprime.coprime_dvd_right u2 b.reduced)
 have c:Nat.gcd (u.num*v.num).natAbs (u.den*v.den)=1:=by
  rw[Int.natAbs_mul]
  exact Nat.Coprime.mul_left (Nat.Coprime.mul_right c1 c3) (Nat.Coprime.mul_right c4 c2)
 rw[Rat.mul_def',Qn _ (Nat.mul_ne_zero u.den_nz v.den_nz),Lb _ (Nat.mul_ne_zero u.den_nz v.den_nz),c,Nat.div_one,Nat.div_one,Int.natAbs_mul]
 exact⟨rfl,rfl⟩
theorem SG {a b:Rat} (ha:a.num≠0) (hb:b.num≠0):(a*b).num<0↔(decide (a.num<0) != decide (b.num<0))=true:=by
 rw[Rat.mul_def',apL _ (Nat.mul_ne_zero a.den_nz b.den_nz)]
 rcases Int.lt_or_gt_of_ne ha with h1 | h1<;>rcases Int.lt_or_gt_of_ne hb with h2 | h2
 ·have:=Int.mul_pos_of_neg_of_neg h1 h2
  rw[decide_eq_true h1,decide_eq_true h2]
  simp;omega
 ·have:=Int.mul_neg_of_neg_of_pos h1 h2
  rw[decide_eq_true h1,decide_eq_false (show ¬b.num<0 by omega)]
  simp[this]
 ·have:=Int.mul_neg_of_pos_of_neg h1 h2
  rw[decide_eq_false (show ¬a.num<0 by omega),decide_eq_true h2]
  simp[this]
 ·have:=Int.mul_pos h1 h2
  rw[decide_eq_false (show ¬a.num<0 by omega),decide_eq_false (show ¬b.num<0 by omega)]
  simp;omega
def kR (q:Rat):Int:=if q.num=0 then 0 else if q.num<0 then -1 else 1
def T4 (a b:Rat):Int:=if kR a=kR b then (if a.num<0 then -eZ (a.num.natAbs*b.den) (b.num.natAbs*a.den) else eZ (a.num.natAbs*b.den) (b.num.natAbs*a.den)) else kR a-kR b
theorem vF {m n:Nat}:eZ m n<0↔m<n:=by
 unfold eZ
 split
 ·omega
 ·split<;>omega
theorem X3 {m n:Nat}:0<eZ m n↔n<m:=by
 unfold eZ
 split
 ·omega
 ·split<;>omega
theorem BH {m n:Nat}:eZ m n=0↔m=n:=by
 unfold eZ
 split
 ·omega
 ·split<;>omega
theorem pW {q:Rat} (h:q.num<0):kR q = -1:=by unfold kR;rw[if_neg (by omega),if_pos h]
theorem kZ {q:Rat} (h:q.num=0):kR q=0:=by unfold kR;rw[if_pos h]
theorem qA {q:Rat} (h:0<q.num):kR q=1:=by unfold kR;rw[if_neg (by omega),if_neg (by omega)]
theorem ajT {a b:Rat}:T4 a b<0↔a<b:=by
 rw[Rat.lt_iff]
 have hA:(0:Int)<a.den:=by have:=a.den_nz;omega
 have hB:(0:Int)<b.den:=by have:=b.den_nz;omega
 have eA:((a.num.natAbs*b.den:Nat):Int)=(a.num.natAbs:Int)*b.den:=by simp
 have eB:((b.num.natAbs*a.den:Nat):Int)=(b.num.natAbs:Int)*a.den:=by simp
 unfold T4
 rcases Int.lt_trichotomy a.num 0 with h1 | h1 | h1<;>rcases Int.lt_trichotomy b.num 0 with h2 | h2 | h2
 ·rw[pW h1,pW h2,if_pos rfl,if_pos h1]
  have f1:(a.num.natAbs:Int) = -a.num:=by omega
  have f2:(b.num.natAbs:Int) = -b.num:=by omega
  rw[f1,Int.neg_mul] at eA
  rw[f2,Int.neg_mul] at eB
  have := @X3 (a.num.natAbs*b.den) (b.num.natAbs*a.den)
  omega
 ·rw[pW h1,kZ h2,if_neg (by decide),h2,Int.zero_mul]
  have:=Int.mul_neg_of_neg_of_pos h1 hB
  omega
 ·rw[pW h1,qA h2,if_neg (by decide)]
  have:=Int.mul_neg_of_neg_of_pos h1 hB
  have:=Int.mul_pos h2 hA
  omega
 ·rw[kZ h1,pW h2,if_neg (by decide),h1,Int.zero_mul]
  have:=Int.mul_neg_of_neg_of_pos h2 hA
  omega
 ·rw[kZ h1,kZ h2,if_pos rfl,h1,h2];simp[eZ]
 ·rw[kZ h1,qA h2,if_neg (by decide),h1,Int.zero_mul]
  have:=Int.mul_pos h2 hA
  omega
 ·rw[qA h1,pW h2,if_neg (by decide)]
  have:=Int.mul_neg_of_neg_of_pos h2 hA
  have:=Int.mul_pos h1 hB
  omega
 ·rw[qA h1,kZ h2,if_neg (by decide),h2,Int.zero_mul]
  have:=Int.mul_pos h1 hB
  omega
 ·rw[qA h1,qA h2,if_pos rfl,if_neg (by omega)]
  have f1:(a.num.natAbs:Int)=a.num:=by omega
  have f2:(b.num.natAbs:Int)=b.num:=by omega
  rw[f1] at eA
  rw[f2] at eB
  have := @vF (a.num.natAbs*b.den) (b.num.natAbs*a.den)
  omega
theorem adM (m n:Nat):eZ n m = -eZ m n:=by
 rcases Nat.lt_trichotomy m n with h | h | h
 ·rw[eZ,eZ,if_neg (by omega),if_neg (by omega),if_pos h];rfl
 ·subst h;rw[eZ,if_neg (by omega),if_pos rfl];rfl
 ·rw[eZ,eZ,if_pos h,if_neg (by omega),if_neg (by omega)]
theorem adH (a b:Rat):T4 b a = -T4 a b:=by
 unfold T4
 by_cases h:kR a=kR b
 ·have h2:b.num<0↔a.num<0:=by
   rcases Int.lt_trichotomy a.num 0 with h1 | h1 | h1<;>rcases Int.lt_trichotomy b.num 0 with h2 | h2 | h2
   ·simp[h1,h2]
   ·rw[pW h1,kZ h2] at h;omega
   ·rw[pW h1,qA h2] at h;omega
   ·rw[kZ h1,pW h2] at h;omega
   ·omega
   ·rw[kZ h1,qA h2] at h;omega
   ·rw[qA h1,pW h2] at h;omega
   ·rw[qA h1,kZ h2] at h;omega
   ·omega
  rw[if_pos h,if_pos h.symm,adM]
  by_cases h3:a.num<0
  ·rw[if_pos h3,if_pos (h2.2 h3)]
  ·rw[if_neg h3,if_neg (mt h2.1 h3)]
 ·rw[if_neg h,if_neg (fun h'=>h h'.symm)];omega
theorem XV {a b:Rat}:0<T4 a b↔b<a:=by
 rw[←ajT,adH a b];omega
theorem Ct {q:Rat}:kR q=0↔q=0:=by
 rw[←Rat.num_eq_zero]
 rcases Int.lt_trichotomy q.num 0 with h | h | h
 ·rw[pW h];omega
 ·rw[kZ h];omega
 ·rw[qA h];omega
end Go.PM
namespace Go.PM
theorem Pg {ds:List Nat} {H:aA}:cW 1 (iG ds) H=some (ds.map tV):=by
 have:((ds.map tV).all fun x=>(aB x).length == 1&&(aB x).all bY)=true:=by
  rw[List.all_eq_true]
  intro x hx
  obtain⟨d,_,rfl⟩:=List.mem_map.1 hx
  rfl
 simp only[cW,iG,aK,this,if_true]
theorem EA (n:Nat) {H:aA}:cW 1 (cE n) H=some ((aC 1000000000 n).map tV):=Pg
theorem IN {a n:Nat} (hn:(aC 1000000000 a).length=n+1):∃d,(aC 1000000000 a)[n]? = some d∧d≠0∧d<1000000000:=by
 obtain⟨d,hd⟩:∃d,(aC 1000000000 a)[n]? = some d:=⟨_,List.getElem?_eq_getElem (by omega)⟩
 refine⟨d,hd,fun h0 => ?_,fL (by decide) a d (List.mem_of_getElem? hd)⟩
 have:=O3 (b:=1000000000) (by decide) a
 rw[List.getLast?_eq_getElem?,hn,Nat.add_sub_cancel,hd,h0] at this
 exact this rfl
theorem X9 {a d:Nat} (h:aC 1000000000 a=[d]):a=d∧0<d∧d<1000000000:=by
 have h1:=cM (b:=1000000000) (by decide) a
 rw[h,val_one] at h1
 obtain⟨e,h2,h3,h4⟩:=IN (a:=a) (n:=0) (by rw[h];rfl)
 rw[h] at h2
 cases h2
 exact⟨h1.symm,by omega,h4⟩
theorem aqP {a:Nat} (h:(aC 1000000000 a).length≤2):a<1000000000000000000:=by
 have h1:=gR (b:=1000000000) (by decide) a
 have h2:1000000000^(aC 1000000000 a).length≤1000000000^2:=Nat.pow_le_pow_right (by decide) h
 omega
theorem abI {H:aA} {u v:VV} (hu:aY u=true) (hv:aY v=true):fz depth H (.dR [u,v])=some (.dR [u,v]):=aL (by simp only[aY,aP,hu,hv,Bool.and_self])
theorem avA {X N:Nat} (h:(aC 1000000000 X).length≤N):J2 0 1 (.ref 0 0 0 N N) (cE X) [.row 0 ((List.replicate N 0).map tV) 1 true]=some (VI ((aC 1000000000 X).length:Int),[.row 0 ((aC 1000000000 X++List.replicate (N-(aC 1000000000 X).length) 0).map tV) 1 true]):=by
 have e:((aC 1000000000 X).map tV).take N=(aC 1000000000 X).map tV:=List.take_of_length_le (by simpa using h)
 simp only[J2,cE,Pg,aQ,e,List.length_map,List.length_replicate,Nat.zero_add]
 rw[if_pos ⟨trivial,Nat.le_refl _,h⟩]
 simp only[cZ,List.set_cons_zero,List.take_zero,List.nil_append,Nat.zero_add,List.length_map,List.map_append,List.map_replicate,List.drop_replicate]
theorem uY (a b:Nat) (hb:b≠0) (ha:(aC 1000000000 a).length<17592186044416) (vE:(aC 1000000000 b).length<17592186044416):TC 185 [cE a,cE b] (.dR [cE (a / b),cE (a % b)]):=by
 refine TC.walk ⟨true,false⟩ IG rfl (Nat.le_of_ble_eq_true rfl) (by simp[aP,cL]) (by simp[hC,qD,nI]) ?_
 have s1:=CI a (by omega)
 have s2:=CI b (by omega)
 have fin:∀ {H:aA},fz depth H (.dR [cE (a / b),cE (a % b)])=some (.dR [cE (a / b),cE (a % b)]):=abI (cL _) (cL _)
 by_cases Rz:(aC 1000000000 a).length≤2∧(aC 1000000000 b).length≤2
 ·rw[if_pos Rz.1] at s1
  rw[if_pos Rz.2] at s2
  have la:=aqP Rz.1
  have q1:=Lh a b (by omega) (by omega)
  have q2:=Mv a b (by omega)
  have Uv:a / b≤a:=Nat.div_le_self _ _
  have hml:a % b≤a:=Nat.mod_le _ _
  have n1:TC 178 [VI ((a / b:Nat):Int)] (cE (a / b)):=qZ ((a / b:Nat):Int) (Int.ofNat_le.2 (show a / b≤9223372036854775807 from Nat.le_trans Uv (by omega)))
  have n2:TC 178 [VI ((a % b:Nat):Int)] (cE (a % b)):=qZ ((a % b:Nat):Int) (Int.ofNat_le.2 (show a % b≤9223372036854775807 from Nat.le_trans hml (by omega)))
  simp only[fJ,dO,s1,s2,q1,q2,n1,n2,VX,Nat.reduceEqDiff,Nat.reduceAdd]
  exact fin
 have c1:=vH a b (by omega) (by omega)
 obtain⟨x1,t1,Oj⟩:∃(x:Int) (t:Bool),(if (aC 1000000000 a).length≤2 then VV.dR [VI a,VB true] else .dR [VI 0,VB false]) = .dR [VI x,VB t]:=by split<;>exact⟨_,_,rfl⟩
 have hs2:∃(x:Int) (t:Bool),(if (aC 1000000000 b).length≤2 then VV.dR [VI b,VB true] else .dR [VI 0,VB false]) = .dR [VI x,VB t]∧(t1=true→t=false):=by
  by_cases h:(aC 1000000000 b).length≤2
  ·rw[if_pos h]
   refine⟨_,_,rfl,fun ht => ?_⟩
   rw[if_neg (fun h'=>Rz ⟨h',h⟩)] at Oj
   injection Oj with Oj
   injection Oj with _ Oj
   injection Oj with Oj _
   injection Oj with Oj
   injection Oj with Oj
   subst ht
   cases Oj
  ·rw[if_neg h]
   exact⟨_,_,rfl,fun _=>rfl⟩
 obtain⟨x2,t2,hs2,ht⟩:=hs2
 rw[Oj] at s1
 rw[hs2] at s2
 by_cases GH:eZ a b<0
 ·have bH:a<b:=vF.1 GH
  have e0:∀lr,lG lr [.int .i64 0] 0 [] []=some (.ref 0 0 0 0 0,[.row 0 [] 1 true]):=fun lr=>jH (H:=[]) rfl
  have e1:∀lr,lG lr [.int .i64 0] 0 [] [.row 0 [] 1 true]=some (.ref 1 0 0 0 0,[.row 0 [] 1 true,.row 0 [] 1 true]):=fun lr=>jH (H:=[.row 0 [] 1 true]) rfl
  rw[Nat.div_eq_of_lt bH,Nat.mod_eq_of_lt bH]
  have hz:fz (6+1) [.row 0 [] 1 true,.row 0 [] 1 true] (.ref 0 0 0 0 0)=some (cE 0):=by rw[IY];rfl
  by_cases ha0:a=0
  ·subst ha0
   have ap:dW 0 1 8 (.ref 1 0 0 0 0) ((aC 1000000000 0).map tV) [.row 0 [] 1 true,.row 0 [] 1 true]=some (.ref 1 0 0 0 0,[.row 0 [] 1 true,.row 0 [] 1 true]):=by
    rw[cH];rfl
   have Jq:fz (6+1) [.row 0 [] 1 true,.row 0 [] 1 true] (.ref 1 0 0 0 0)=some (cE 0):=by rw[IY];rfl
   cases t1 with
   |
    false =>
    simp only[fJ,dO,s1,s2,c1,GH,e0,e1,ap,EA,VX,Nat.reduceEqDiff,Nat.reduceAdd]
    exact bZ (d:=6) hz Jq
   |
    true =>
    rw[ht rfl] at s2
    simp only[fJ,dO,s1,s2,c1,GH,e0,e1,ap,EA,VX,Nat.reduceEqDiff,Nat.reduceAdd]
    exact bZ (d:=6) hz Jq
  ·have hln:(aC 1000000000 a).length≠0:=fun h=>ha0 ((lU (b:=1000000000) (by decide)).1 (List.length_eq_zero_iff.1 h))
   have ap:dW 0 1 8 (.ref 1 0 0 0 0) ((aC 1000000000 a).map tV) [.row 0 [] 1 true,.row 0 [] 1 true]=some (.ref 1 1 0 (aC 1000000000 a).length (aC 1000000000 a).length,[.row 0 [] 1 true,.row 1 ((aC 1000000000 a).map tV) 1 true]):=by
    have hr:aF [.row 0 [] 1 true,.row 0 [] 1 true] 1 0=some ([],1,true):=rfl
    simp only[dW,hr,List.length_map,Nat.zero_add,List.length_nil,Nat.add_zero]
    rw[if_pos ⟨by decide,by decide⟩,if_pos ⟨trivial,Nat.zero_le _,Nat.le_refl _⟩,if_neg (by omega),if_pos (by omega)]
    simp
   have E7:fz (6+1) [.row 0 [] 1 true,.row 1 ((aC 1000000000 a).map tV) 1 true] (.ref 0 0 0 0 0)=some (cE 0):=by rw[IY];rfl
   have Jq:fz (6+1) [.row 0 [] 1 true,.row 1 ((aC 1000000000 a).map tV) 1 true] (.ref 1 1 0 (aC 1000000000 a).length (aC 1000000000 a).length)=some (cE a):=by
    have:aY (.ref 1 1 0 (aC 1000000000 a).length (aC 1000000000 a).length)=false:=rfl
    have hr:aF [.row 0 [] 1 true,.row 1 ((aC 1000000000 a).map tV) 1 true] 1 1=some ((aC 1000000000 a).map tV,1,true):=rfl
    unfold fz
    simp only[this,hr,Bool.false_eq_true,if_false]
    rw[if_pos ⟨by simp,Nat.le_refl _⟩,List.drop_zero,List.take_of_length_le (by simp),mapM_pure (n:=5) (fI fun _=>rfl)]
    rfl
   cases t1 with
   |
    false =>
    simp only[fJ,dO,s1,s2,c1,GH,e0,e1,ap,EA,VX,Nat.reduceEqDiff,Nat.reduceAdd]
    exact bZ (d:=6) E7 Jq
   |
    true =>
    rw[ht rfl] at s2
    simp only[fJ,dO,s1,s2,c1,GH,e0,e1,ap,EA,VX,Nat.reduceEqDiff,Nat.reduceAdd]
    exact bZ (d:=6) E7 Jq
 have CJ:b≤a:=by have := @vF a b;omega
 have hbn:(aC 1000000000 b).length≠0:=fun h=>hb ((lU (b:=1000000000) (by decide)).1 (List.length_eq_zero_iff.1 h))
 by_cases h1:(((aC 1000000000 b).length:Nat):Int)=1
 ·obtain⟨d,hd⟩:∃d,aC 1000000000 b=[d]:=List.length_eq_one_iff.1 (by omega)
  obtain⟨Z6,DZ,hdT⟩:=X9 hd
  have e1:bQ 1 (cE b) (VI 0) []=some (.cT (tV d) 0):=by
   rw[cE,hd]
   exact aJ (f:=tV) (t := .op) (H:=[]) (size:=1) (k := .i64) (xs:=[d]) (i:=0) rfl rfl
  have c2:=zL a d DZ hdT (by omega)
  rw[←Z6] at c2
  have Vo:a % b≤b:=Nat.le_of_lt (Nat.mod_lt _ (by omega))
  have n2:TC 178 [VI ((a % b:Nat):Int)] (cE (a % b)):=qZ ((a % b:Nat):Int) (Int.ofNat_le.2 (show a % b≤9223372036854775807 from Nat.le_trans Vo (by omega)))
  have e2:tV d=tV b:=by rw[Z6]
  rw[e2] at e1
  cases t1 with
  |
   false =>
   simp only[fJ,dO,s1,s2,c1,GH,cN,h1,e1,c2,n2,VX,Nat.reduceEqDiff,Nat.reduceAdd]
   exact fin
  |
   true =>
   rw[ht rfl] at s2
   simp only[fJ,dO,s1,s2,c1,GH,cN,h1,e1,c2,n2,VX,Nat.reduceEqDiff,Nat.reduceAdd]
   exact fin
 obtain⟨n,hn⟩:∃n,(aC 1000000000 b).length=n+2:=⟨(aC 1000000000 b).length-2,by omega⟩
 obtain⟨t,htd,ht0,htT⟩:=IN (a:=b) (n:=n+1) hn
 obtain⟨s,hs⟩:∃s,s=1000000000 / (t+1):=⟨_,rfl⟩
 have Sr:1≤s:=by rw[hs];exact(Nat.le_div_iff_mul_le (by omega)).2 (by omega)
 have hsT:s<1000000000:=by rw[hs];exact Nat.div_lt_self (by decide) (by omega)
 have C2:(t+1)*s≤1000000000:=by rw[hs];exact Nat.mul_div_le _ _
 have hla:=eI (b:=1000000000) (by decide) CJ
 have w0:IntKind.i64.wrap (((n+2:Nat):Int)-1)=((n+1:Nat):Int):=wrapN _ (by omega) (by omega)
 have w1:IntKind.i64.wrap ((t:Int)+1)=((t+1:Nat):Int):=wrapN _ (by omega) (by omega)
 have q0:dG .quo (.int .i64 1000000000) (.int .i64 ((t+1:Nat):Int))=some (.int .i64 (s:Int)):=by rw[hs];exact Lh 1000000000 (t+1) (by decide) (by omega)
 have et:∀H,bQ 1 (cE b) (VI ((n+1:Nat):Int)) H=some (.cT (tV t) 0):=fun H=>aJ (f:=tV) (t := .op) (size:=1) (k := .i64) htd rfl
 have YX:¬(((n+2:Nat):Int)=1):=by omega
 obtain⟨N,hN⟩:∃N,N=(aC 1000000000 a).length+1:=⟨_,rfl⟩
 have wN:IntKind.i64.wrap (((aC 1000000000 a).length:Int)+1)=(N:Int):=wrapN _ (by omega) (by omega)
 have mkN:=Q4 N (by omega)
 have c3:=yL a s Sr hsT ha
 have c4:=yL b s Sr hsT vE
 have anH:b*s<1000000000^(n+2):=by
  have h2:=(AN (n:=n+1) (fL (b:=1000000000) (by decide) b) hn htd).2
  rw[cM (by decide)] at h2
  have h3:b*s<(t+1)*1000000000^(n+1)*s:=Nat.mul_lt_mul_of_pos_right h2 Sr
  have h4:(t+1)*1000000000^(n+1)*s=(t+1)*s*1000000000^(n+1):=by grind
  have h9:(t+1)*s*1000000000^(n+1)≤1000000000*1000000000^(n+1):=Nat.mul_le_mul_right _ C2
  have h10:1000000000*1000000000^(n+1)=1000000000^(n+2):=by rw[Nat.pow_succ 1000000000 (n+1)];exact Nat.mul_comm _ _
  rw[h4] at h3
  rw[h10] at h9
  exact Nat.lt_of_lt_of_le h3 h9
 have hVl:(aC 1000000000 (b*s)).length=n+2:=by
  have h2:=mH (b:=1000000000) (by decide) anH
  have h3:b≤b*s:=Nat.le_mul_of_pos_right b Sr
  have h4:=eI (b:=1000000000) (by decide) h3
  omega
 have hAl:(aC 1000000000 (a*s)).length≤N:=by
  have h2:=Rp (b:=1000000000) (by decide) a s
  have h3:(aC 1000000000 s).length≤1:=mH (by decide) (by rw[Nat.pow_one];exact hsT)
  omega
 have cp:=avA hAl
 obtain⟨m,hm⟩:∃m,m+(n+2)=N:=⟨N-(n+2),by omega⟩
 have wm:IntKind.i64.wrap ((N:Int)-((n+2:Nat):Int))=(m:Int):=wrapN _ (by omega) (by omega)
 have wm1:IntKind.i64.wrap ((m:Int)-1)=(m:Int)-1:=wrap64 (by omega) (by omega)
 obtain⟨E5,ajF⟩:∃E5,E5=aC 1000000000 (a*s)++List.replicate (N-(aC 1000000000 (a*s)).length) 0:=⟨_,rfl⟩
 rw[←ajF] at cp
 have mkm:Bs [.int .i64 0] 8 (VI (m:Int)) (VI (m:Int)) [.row 0 (E5.map tV) 1 true]=some (.ref 1 0 0 m m,[.row 0 (E5.map tV) 1 true]++[.row 0 ((List.replicate m 0).map tV) 1 true]):=sD (f:=tV) (x:=0) (H:=[.row 0 (E5.map tV) 1 true]) rfl (by omega) (by omega)
 have lN:∀K,aF K 0 0=some (E5.map tV,1,true)→oS (.ref 0 0 0 N N) K=some (VI (N:Int)):=fun K h=>dX h
 have l1:=lN [.row 0 (E5.map tV) 1 true] rfl
 have l2:=lN (H2 E5 (List.replicate m 0)) rfl
 have apE:E5.length=N:=by rw[ajF,List.length_append,List.length_replicate];omega
 have atI:∀d∈E5,d<1000000000:=fun d hd=>by
  rw[ajF] at hd
  rcases List.mem_append.1 hd with h | h
  ·exact fL (by decide) _ d h
  ·rw[List.eq_of_mem_replicate h];decide
 have aoR:val 1000000000 E5=a*s:=by rw[ajF,yO,rQ,Nat.mul_zero,Nat.add_zero,cM (by decide)]
 generalize Rv:aC 1000000000 (b*s)=vs at *
 have HH:∀d∈vs,d<1000000000:=by rw[←Rv];exact fL (by decide) _
 have N2:val 1000000000 vs=b*s:=by rw[←Rv];exact cM (by decide) _
 have lV:∀H,oS (cE (b*s)) H=some (VI ((n+2:Nat):Int)):=fun H=>by rw[cN,Rv,hVl]
 obtain⟨v1,f1⟩:∃v1,vs[n+1]? = some v1:=⟨_,List.getElem?_eq_getElem (by omega)⟩
 obtain⟨v0,f0⟩:∃v0,vs[n]? = some v0:=⟨_,List.getElem?_eq_getElem (by omega)⟩
 have hv1:1≤v1:=by
  obtain⟨d,hd,DZ,_⟩:=IN (a:=b*s) (n:=n+1) (by rw[Rv];exact hVl)
  rw[Rv,f1] at hd
  cases hd
  omega
 have CT:val 1000000000 (E5.drop m)<val 1000000000 vs:=by
  have h2:=pR (b:=1000000000) E5 m
  rw[List.length_take,apE,Nat.min_eq_left (by omega),aoR] at h2
  have h3:a<b*1000000000^m:=by
   have y1:=gR (b:=1000000000) (by decide) a
   have y2:=La (b:=1000000000) (by decide) hb
   rw[hn] at y2
   have y3:1000000000^(n+2-1)*1000000000^m≤b*1000000000^m:=Nat.mul_le_mul_right _ y2
   rw[←Nat.pow_add,show n+2-1+m=(aC 1000000000 a).length by omega] at y3
   exact Nat.lt_of_lt_of_le y1 y3
  have h4:a*s<b*1000000000^m*s:=Nat.mul_lt_mul_of_pos_right h3 Sr
  have h5:b*1000000000^m*s=1000000000^m*(b*s):=by grind
  rw[N2]
  have h6:1000000000^m*val 1000000000 (E5.drop m)<1000000000^m*(b*s):=by
   rw[←h5]
   exact Nat.lt_of_le_of_lt (by rw[h2];exact Nat.le_add_left _ _) h4
  exact Nat.lt_of_mul_lt_mul_left h6
 have body:VW ⟨true,false⟩ 0 (.loop iV)=VW ⟨true,false⟩ 0 (.loop iV):=rfl
 have tail:∀(us os:List Nat),us.length=N→(∀d∈us,d<1000000000)→os.length=m→(∀d∈os,d<1000000000)→val 1000000000 us+val 1000000000 vs*val 1000000000 os=a*s→val 1000000000 us<val 1000000000 vs →
   (∀lo K,cV 184 [.ref 0 0 0 N N] lo (H2 us os) K=K (cE (a % b*s)) (dB (H2 us os) [0])) ∧
   (∀lo K,cV 184 [.ref 1 0 0 m m] lo (dB (H2 us os) [0]) K=K (cE (a / b)) (dB (dB (H2 us os) [0]) [1]))∧TC 202 [cE (a % b*s),VI (s:Int)] (.dR [cE (a % b),VI ((a % b*s % s:Nat):Int)]):=by
  intro us os Pl J7 jK lM hv bH
  rw[N2] at hv bH
  have hq:val 1000000000 os=a / b:=by
   rw[←Nat.mul_div_mul_right a b Sr,←hv,Nat.add_mul_div_left _ _ (Nat.lt_of_le_of_lt (Nat.zero_le _) bH),Nat.div_eq_of_lt bH,Nat.zero_add]
  have hr:val 1000000000 us=a % b*s:=by
   rw[←Nat.mul_mod_mul_right,←hv,Nat.add_mul_mod_self_left,Nat.mod_eq_of_lt bH]
  refine⟨fun lo K => ?_,fun lo K => ?_,?_⟩
  ·have h:=tN us J7 (by omega)
   rw[hr] at h
   exact TC.aiU (f:=tV) h US Pl.symm (Nat.le_refl _) GF (fun _=>rfl) rfl rfl lo K
  ·have h:=tN os lM (by omega)
   rw[hq] at h
   have nD:aF (dB (H2 us os) [0]) 1 0=some (os.map tV,1,true):=rfl
   exact TC.aiU (f:=tV) h nD jK.symm (Nat.le_refl _) GF (fun _=>rfl) rfl rfl lo K
  ·have h:=zL (a % b*s) s Sr hsT (by
    have h2:=eI (b:=1000000000) (by decide) (Nat.le_trans (Nat.le_of_lt bH) (show b*s≤b*s from Nat.le_refl _))
    rw[hr,Rv] at h2
    omega)
   rwa [Nat.mul_div_cancel _ Sr] at h
 clear body
 have nV:cE (b*s)=iG vs:=by rw[cE,Rv]
 cases t1 with
 |
  false =>
  simp only[fJ,dO,s1,s2,c1,GH,cN,hn,YX,w0,w1,q0,et,wN,mkN,c3,c4,cp,lV,l1,l2,wm,wm1,mkm,List.cons_append,List.nil_append,VX,Nat.reduceEqDiff,Nat.reduceAdd]
  refine Pa (E5:=E5) (ZX:=List.replicate m 0) (vs:=vs) (N:=N) (m:=m) (n:=n) (A:=a*s) (s:=s) apE hm (by omega) atI hVl HH f1 f0 hv1 aoR CT (by simp) (A0 (by decide) _) (by rfl) (by rfl) (by simp only[VX,Nat.reduceEqDiff,Nat.reduceAdd];exact nV) (by rfl) (by rfl) (by rfl) ?_
  intro xY us os r12 Vy r16 Pl J7 jK lM hv bH
  obtain⟨x1,x2,x3⟩:=tail us os Pl J7 jK lM hv bH
  simp only[r12,Vy,r16,x1,x2,x3,VX,Nat.reduceEqDiff,Nat.reduceAdd]
  exact fin
 |
  true =>
  rw[ht rfl] at s2
  simp only[fJ,dO,s1,s2,c1,GH,cN,hn,YX,w0,w1,q0,et,wN,mkN,c3,c4,cp,lV,l1,l2,wm,wm1,mkm,List.cons_append,List.nil_append,VX,Nat.reduceEqDiff,Nat.reduceAdd]
  refine Pa (E5:=E5) (ZX:=List.replicate m 0) (vs:=vs) (N:=N) (m:=m) (n:=n) (A:=a*s) (s:=s) apE hm (by omega) atI hVl HH f1 f0 hv1 aoR CT (by simp) (A0 (by decide) _) (by rfl) (by rfl) (by simp only[VX,Nat.reduceEqDiff,Nat.reduceAdd];exact nV) (by rfl) (by rfl) (by rfl) ?_
  intro xY us os r12 Vy r16 Pl J7 jK lM hv bH
  obtain⟨x1,x2,x3⟩:=tail us os Pl J7 jK lM hv bH
  simp only[r12,Vy,r16,x1,x2,x3,VX,Nat.reduceEqDiff,Nat.reduceAdd]
  exact fin
end Go.PM
namespace Go.PM
theorem dJ (n:Nat) {H:aA}:oS (bS n) H=some (VI (aC 4294967296 n).length):=dY
theorem xL {n:Nat}:(0:Int)<((aC 4294967296 n).length:Int)↔n≠0:=by
 constructor
 ·intro h h0
  subst h0
  rw[cH] at h
  simp at h
 ·intro h
  have:=(lU (b:=4294967296) (by decide) (n:=n))
  have h2:aC 4294967296 n≠[]:=fun hx=>h (this.1 hx)
  have:=List.length_pos_iff.2 h2
  omega
theorem RD {n:Nat} (h:(aC 4294967296 n).length≤2):n<18446744073709551616:=by
 have h1:=gR (b:=4294967296) (by decide) n
 have h2:4294967296^(aC 4294967296 n).length≤4294967296^2:=Nat.pow_le_pow_right (by decide) h
 omega
theorem Ei (a b:Nat) (ha:(aC 4294967296 a).length≤17592186044416) (hb:(aC 4294967296 b).length≤17592186044416):TC 175 [bS a,bS b] (bS (Nat.gcd a b)):=by
 refine TC.walk ⟨true,false⟩ Ji rfl (Nat.le_of_ble_eq_true rfl) (by simp[aP,cB]) (qX _) ?_
 simp only[Eg,Bd,VX,Nat.reduceEqDiff,Nat.reduceAdd]
 refine aU (fun(t:Nat×Nat) ρ H=>H=[]∧Nat.gcd t.1 t.2=Nat.gcd a b∧(aC 4294967296 t.1).length≤17592186044416∧(aC 4294967296 t.2).length≤17592186044416∧ρ 0=bS t.1∧ρ 1=bS t.2) (fun t=>t.2) (a,b) ⟨rfl,rfl,ha,hb,rfl,rfl⟩ ?_
 rintro⟨x,y⟩ ρ H ⟨rfl,hg,hx,hy,g0,g1⟩
 simp only at hg hx hy g0 g1
 have c1:=By x hx
 have c2:=By y hy
 by_cases hy0:y=0
 ·subst hy0
  have hl:¬(0:Int)<((aC 4294967296 0).length:Int):=by rw[xL];omega
  rw[Nat.gcd_zero_right] at hg
  simp only[iR,g0,g1,dJ,hl,VX,Nat.reduceEqDiff,Nat.reduceAdd]
  rw[hg]
  exact aL (cB _)
 have hl:(0:Int)<((aC 4294967296 y).length:Int):=xL.2 hy0
 by_cases h1:(aC 4294967296 x).length≤2∧(aC 4294967296 y).length≤2
 ·rw[if_pos h1.1] at c1
  rw[if_pos h1.2] at c2
  simp only[iR,g0,g1,dJ,hl,c1,c2,VX,Nat.reduceEqDiff,Nat.reduceAdd]
  refine aU (fun(t:Nat×Nat) ρ H=>H=[]∧Nat.gcd t.1 t.2=Nat.gcd a b∧t.1<18446744073709551616∧t.2<18446744073709551616∧ρ 5=VK .u64 t.1∧ρ 7=VK .u64 t.2) (fun t=>t.2) (x,y) ⟨rfl,hg,RD h1.1,RD h1.2,rfl,rfl⟩ ?_
  rintro⟨u,v⟩ PX H ⟨rfl,hg2,hu,hv,k5,k7⟩
  simp only at hg2 hu hv k5 k7
  by_cases hv0:v=0
  ·subst hv0
   rw[Nat.gcd_zero_right] at hg2
   have hz:¬(0:Int)<((0:Nat):Int):=by omega
   have c3:=nA u hu
   simp only[tJ,k5,k7,hz,c3,VX,Nat.reduceEqDiff,Nat.reduceAdd]
   rw[hg2]
   exact aL (cB _)
  ·have hz:(0:Int)<(v:Int):=by omega
   have r1:=QA u v (by omega)
   simp only[tJ,k5,k7,hz,r1,VX,Nat.reduceEqDiff,Nat.reduceAdd]
   refine⟨(v,u % v),?_,?_,hv,?_,rfl,rfl⟩
   ·exact Nat.mod_lt _ (by omega)
   ·simp only
    rw[←hg2,Nat.gcd_comm u v,Nat.gcd_rec v u,Nat.gcd_comm]
   ·simp only
    have:=Nat.mod_lt u (show 0<v by omega)
    omega
 ·have c3:=zN x y hy0 hx hy
  have next:∃s':Nat×Nat,s'.2<y∧Nat.gcd s'.1 s'.2=Nat.gcd a b∧(aC 4294967296 s'.1).length≤17592186044416∧(aC 4294967296 s'.2).length≤17592186044416∧bS y=bS s'.1∧bS (x % y)=bS s'.2:=by
   have hm:=Nat.mod_lt x (show 0<y by omega)
   refine⟨(y,x % y),hm,?_,hy,?_,rfl,rfl⟩
   ·simp only
    rw[←hg,Nat.gcd_comm x y,Nat.gcd_rec y x,Nat.gcd_comm]
   ·simp only
    have:=eI (b:=4294967296) (by decide) (Nat.le_of_lt hm)
    omega
  by_cases h2:(aC 4294967296 x).length≤2
  ·have h3:¬(aC 4294967296 y).length≤2:=fun h=>h1 ⟨h2,h⟩
   rw[if_pos h2] at c1
   rw[if_neg h3] at c2
   simp only[iR,g0,g1,dJ,hl,c1,c2,c3,VX,Nat.reduceEqDiff,Nat.reduceAdd]
   exact next
  ·rw[if_neg h2] at c1
   by_cases h3:(aC 4294967296 y).length≤2
   ·rw[if_pos h3] at c2
    simp only[iR,g0,g1,dJ,hl,c1,c2,c3,VX,Nat.reduceEqDiff,Nat.reduceAdd]
    exact next
   ·rw[if_neg h3] at c2
    simp only[iR,g0,g1,dJ,hl,c1,c2,c3,VX,Nat.reduceEqDiff,Nat.reduceAdd]
    exact next
end Go.PM