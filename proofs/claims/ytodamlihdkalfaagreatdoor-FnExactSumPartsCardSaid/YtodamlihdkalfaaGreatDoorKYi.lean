/- Texts of a claim, in one: part 9. -/
import Derived.Test.YtodamlihdkalfaaGreatDoorKYh
set_option linter.unusedSimpArgs false
set_option linter.unusedVariables false
namespace Go.PM
theorem uT {d:Nat} {H:aA}:fz (d+1) H (.tree [] .nil)=some (bE 0):=by
 rw[C6]
 unfold fz
 have:aO (.tree [] .nil)=false:=by simp[aO]
 simp only[this,Bool.false_eq_true,if_false]
 rfl
theorem Yz {d:Nat} {H:aA} {m:Nat} {t:TK} (ht:t = .cl 1∨t = .op):fz (d+2) H (.tree ((aC 4294967296 m).map uV) t)=some (bE m):=by
 rcases ht with rfl | rfl
 ·unfold fz
  have:aO (.tree ((aC 4294967296 m).map uV) (.cl 1))=false:=by simp[aO]
  simp only[this,Bool.false_eq_true,if_false]
  rw[mapM_pure (cZ fun _=>rfl)]
  rfl
 ·exact aH (bH m)
abbrev H3 (us ws os:List Nat):aA:=[.row 0 (us.map uV) 1 true,.row 0 (ws.map uV) 1 true,.row 0 (os.map uV) 1 true]
theorem BL {us ws os:List Nat}:aK (H3 us ws os) 0 0=some (us.map uV,1,true):=rfl
theorem alK {us ws os:List Nat}:aK (H3 us ws os) 1 0=some (ws.map uV,1,true):=rfl
theorem aaH {us ws os:List Nat}:aK (H3 us ws os) 2 0=some (os.map uV,1,true):=rfl
theorem Wt {us:List Nat} {i n N V:Nat} (hN:us.length=N) (cC:i+n<N) (hd:∀d∈us,d<4294967296) (hV:V<4294967296^n) (By:val 4294967296 (us.drop (i+1))<V) :
  us=us.take i++(us.drop i).take (n+1)++us.drop (i+(n+1))∧(us.take i).length=i∧((us.drop i).take (n+1)).length=n+1∧val 4294967296 ((us.drop i).take (n+1))<4294967296*V∧val 4294967296 (us.drop i)=val 4294967296 ((us.drop i).take (n+1))∧val 4294967296 (us.drop (i+(n+1)))=0∧∀j,j<n+1→((us.drop i).take (n+1))[j]? = us[i+j]? := by
 obtain⟨x,hx⟩:∃x,us[i]? = some x:=⟨_,List.getElem?_eq_getElem (by omega)⟩
 have lx:=hd x (List.mem_of_getElem? hx)
 have h1:=qY (b:=4294967296) hx
 have h2:val 4294967296 (us.drop i)<4294967296*V:=by
  have:4294967296*(val 4294967296 (us.drop (i+1))+1)≤4294967296*V:=Nat.mul_le_mul_left _ By
  omega
 have h3:=oN (b:=4294967296) (us.drop i) (n+1)
 have h4:((us.drop i).take (n+1)).length=n+1:=by rw[List.length_take,List.length_drop];omega
 rw[h4,List.drop_drop] at h3
 have h5:val 4294967296 (us.drop (i+(n+1)))=0:=by
  rcases Nat.eq_zero_or_pos (val 4294967296 (us.drop (i+(n+1)))) with h | h
  ·exact h
  ·have h6:4294967296^(n+1)*1≤4294967296^(n+1)*val 4294967296 (us.drop (i+(n+1))):=Nat.mul_le_mul_left _ h
   have h7:4294967296*V≤4294967296^(n+1):=by rw[Nat.pow_succ,Nat.mul_comm];exact Nat.mul_le_mul_right _ (by omega)
   omega
 rw[h5,Nat.mul_zero,Nat.add_zero] at h3
 refine⟨?_,by rw[List.length_take];omega,h4,by omega,h3,h5,fun j hj => ?_⟩
 ·rw[List.append_assoc,←List.drop_drop,List.take_append_drop,List.take_append_drop]
 ·rw[List.getElem?_take_of_lt hj,List.getElem?_drop]
theorem O9 {x D p w:Nat} (hp:0<p) (hw:p*w=4294967296):(x+4294967296*D) / p=((D % 4294967296*4294967296+x) / p) % 4294967296+4294967296*(D / p)∨¬x<4294967296:=by
 rcases Nat.lt_or_ge x 4294967296 with hx | hx
 ·left
  have h1:(x+4294967296*D) / p / 4294967296=D / p:=by
   rw[Nat.div_div_eq_div_mul,Nat.mul_comm p,←Nat.div_div_eq_div_mul,Nat.add_mul_div_left _ _ (by decide),Nat.div_eq_of_lt hx,Nat.zero_add]
  have h2:(x+4294967296*D) / p % 4294967296=(D % 4294967296*4294967296+x) / p % 4294967296:=by
   have e:x+4294967296*D=(D % 4294967296*4294967296+x)+p*(4294967296*(w*(D / 4294967296))):=by
    have h3:=Nat.mod_add_div D 4294967296
    have h4:p*(4294967296*(w*(D / 4294967296)))=(p*w)*(4294967296*(D / 4294967296)):=by grind
    rw[h4,hw]
    omega
   rw[e,Nat.add_mul_div_left _ _ hp,Nat.add_mul_mod_self_left]
  have:=Nat.mod_add_div ((x+4294967296*D) / p) 4294967296
  rw[h1,h2] at this
  exact this.symm
 ·right
  omega
theorem Sx {x:Nat} (h0:x≠0) (hx:x<4294967296):∃s,s≤31∧TC 219 [uV x] (VI (s:Nat))∧x*2^s<4294967296:=by
 obtain⟨h1,h2,h3⟩:=Lib.bitLenAux_bounds 64 x (by omega) h0
 have h4:Lib.bitLenAux 64 x-1<32:=by
  have:2^(Lib.bitLenAux 64 x-1)<2^32:=by omega
  exact(Nat.pow_lt_pow_iff_right (by decide)).1 this
 refine⟨32-Lib.bitLenAux 64 x,by omega,?_,?_⟩
 ·have:=Vb x hx
  have e:(((32-Lib.bitLenAux 64 x:Nat)):Int)=32-(Lib.bitLen x:Int):=by unfold Lib.bitLen;omega
  rw[e]
  exact this
 ·have:2^Lib.bitLenAux 64 x*2^(32-Lib.bitLenAux 64 x)=4294967296:=by rw[←Nat.pow_add,show Lib.bitLenAux 64 x+(32-Lib.bitLenAux 64 x)=32 by omega]
  rw[←this]
  exact Nat.mul_lt_mul_of_pos_right h3 (Nat.pow_pos (by decide))
theorem Vx {us ws os:List Nat} {k N s w0:Nat} {ρ:cM} {Q:VQ} (hs:s≤31) (hw:2^s*w0=4294967296) (hN:us.length=N) (hk:k≤N) (BX:N≤70368744177664) (hd:∀d∈us,d<4294967296) (g8:ρ 8=VI s) (g9:ρ 9 = .ref 0 0 0 k N) (aqE:ρ 147=VI k) (asF:ρ 148=VI 0)
  (hQ:∀(aU:cM) (Ei:List Nat),aU 9 = .ref 0 0 0 k N→aU 13=ρ 13→Ei.length=N→(∀d∈Ei,d<4294967296)→val 4294967296 (Ei.take k)=val 4294967296 (us.take k) / 2^s→Q (.exit 4) aU (H3 Ei ws os)) :
  VW ⟨true,false⟩ 0 (.loop jI) Q ρ (H3 us ws os):=by
 have hp:0<2^s:=Nat.pow_pos (by decide)
 refine aN (fun(t:Nat×List Nat) aU H=>t.1≤k∧H=H3 t.2 ws os∧t.2.length=N∧(∀d∈t.2,d<4294967296)∧(∀j,t.1≤j→t.2[j]? = us[j]?)∧val 4294967296 (t.2.take t.1)+4294967296^t.1*(val 4294967296 ((us.take k).drop t.1) / 2^s)=val 4294967296 (us.take k) / 2^s ∧
  aU 8=VI s∧aU 9 = .ref 0 0 0 k N∧aU 13=ρ 13∧aU 147=VI k∧aU 148=VI t.1) (fun t=>k-t.1) (0,us) ⟨Nat.zero_le _,rfl,hN,hd,fun _ _=>rfl,by simp[val],g8,g9,rfl,aqE,asF⟩ ?_
 rintro⟨i,vs⟩ Mm H ⟨hi,rfl,DS,EA,Ez,hv,k8,k9,AD,afE,abY⟩
 simp only at hi DS EA Ez hv abY
 by_cases cC:(i:Int)<(k:Int)
 ·obtain⟨x,hx⟩:∃x,us[i]? = some x:=⟨_,List.getElem?_eq_getElem (by omega)⟩
  have hx2:vs[i]? = some x:=by rw[Ez i (Nat.le_refl _)];exact hx
  have lx:=hd x (List.mem_of_getElem? hx)
  have hx3:(us.take k)[i]? = some x:=by rw[List.getElem?_take_of_lt (by omega)];exact hx
  have h1:=qY (b:=4294967296) hx3
  generalize hD:val 4294967296 ((us.take k).drop (i+1))=D at *
  have hlen:nS (.ref 0 0 0 k N) (H3 vs ws os)=some (VI k):=cT BL
  have e1:bC 1 (.ref 0 0 0 k N) (VI i) (H3 vs ws os)=some (.ptr 0 0 i 0):=by rw[aQ BL (by omega),Nat.zero_add]
  have e2:dG false 1 (.ptr 0 0 i 0) (H3 vs ws os)=some (uV x):=gL BL hx2
  have e3:∀d:Nat,cJ 0 1 (.ptr 0 0 i 0) (uV d) (H3 vs ws os)=some (H3 (vs.set i d) ws os):=fun d=>by
   rw[cR (f:=uV) (e:=1) BL (by omega) (Nat.le_refl _) rfl rfl]
   rfl
  have wi:IntKind.i64.wrap ((i:Int)+1)=((i+1:Nat):Int):=wrapN (i+1) (by omega) (by omega)
  have wx:IntKind.u64.wrap (x:Int)=(x:Int):=eO _ (by omega)
  have hm:=Nat.mod_lt D (show 0<4294967296 by decide)
  have w5:=CP (D % 4294967296) .u64 hm
  have w6:IntKind.u64.wrap (((D % 4294967296*4294967296:Nat):Int)+(x:Int))=((D % 4294967296*4294967296+x:Nat):Int):=by rw[←Int.natCast_add];exact eO _ (by omega)
  have w7:=WM (D % 4294967296*4294967296+x) s hs
  have sd:(x+4294967296*D) / 2^s=((D % 4294967296*4294967296+x) / 2^s) % 4294967296+4294967296*(D / 2^s):=by
   rcases O9 (x:=x) (D:=D) hp hw with h | h
   ·exact h
   ·exact absurd lx h
  have next:∃s':Nat×List Nat,k-s'.1<k-i∧s'.1≤k∧H3 (vs.set i (((D % 4294967296*4294967296+x) / 2^s) % 4294967296)) ws os=H3 s'.2 ws os∧s'.2.length=N∧(∀d∈s'.2,d<4294967296)∧(∀j,s'.1≤j→s'.2[j]? = us[j]?)∧val 4294967296 (s'.2.take s'.1)+4294967296^s'.1*(val 4294967296 ((us.take k).drop s'.1) / 2^s)=val 4294967296 (us.take k) / 2^s∧s'.1=i+1:=by
   refine⟨(i+1,vs.set i (((D % 4294967296*4294967296+x) / 2^s) % 4294967296)),by simp only;omega,by simp only;omega,rfl,by simp only[List.length_set];exact DS,kI EA (Nat.mod_lt _ (by decide)),fun j hj => ?_,?_,rfl⟩
   ·simp only at hj ⊢
    rw[List.getElem?_set_ne (by omega)]
    exact Ez j (by omega)
   ·simp only
    rw[dQ (by omega),hD,←hv,h1,sd,Nat.pow_succ]
    generalize (D % 4294967296*4294967296+x) / 2^s % 4294967296=q
    generalize D / 2^s=E
    rw[Nat.mul_add,Nat.mul_assoc,Nat.add_assoc]
  obtain⟨s',n1,n2,n3,n4,n5,n6,n7,n8⟩:=next
  by_cases ajV:((i+1:Nat):Int)<(k:Int)
  ·obtain⟨h,hh⟩:∃h,us[i+1]? = some h:=⟨_,List.getElem?_eq_getElem (by omega)⟩
   have hh2:vs[i+1]? = some h:=by rw[Ez (i+1) (by omega)];exact hh
   have hhD:D % 4294967296=h:=by
    have hh3:(us.take k)[i+1]? = some h:=by rw[List.getElem?_take_of_lt (by omega)];exact hh
    have:=qY (b:=4294967296) hh3
    rw[hD] at this
    have lh:=hd h (List.mem_of_getElem? hh)
    omega
   have f1:bC 1 (.ref 0 0 0 k N) (VI ((i+1:Nat):Int)) (H3 vs ws os)=some (.ptr 0 0 (i+1) 0):=by rw[aQ BL (by omega),Nat.zero_add]
   have f2:dG false 1 (.ptr 0 0 (i+1) 0) (H3 vs ws os)=some (uV h):=gL BL hh2
   have wh:IntKind.u64.wrap (h:Int)=(h:Int):=eO _ (by omega)
   rw[hhD] at w5 w6 w7 n3
   simp only[jI,k8,k9,afE,abY,cC,ajV,hlen,e1,e2,e3,f1,f2,wi,wx,wh,w5,w6,w7,wrap32,VX,Nat.reduceEqDiff,Nat.reduceAdd]
   exact⟨s',n1,n2,n3,n4,n5,n6,n7,AD,by rw[n8]⟩
  ·have hD0:D=0:=by
    rw[←hD,List.drop_of_length_le (by rw[List.length_take];omega)]
    rfl
   subst hD0
   have w5':cU .shl (.int .u64 0) (.int .u64 32)=some (.int .u64 0):=CP 0 .u64 (by decide)
   have w6':IntKind.u64.wrap ((0:Int)+(x:Int))=(x:Int):=by rw[Int.zero_add];exact wx
   have w7':=WM x s hs
   simp only[Nat.zero_mod,Nat.zero_mul,Nat.zero_add] at n3
   simp only[jI,k8,k9,afE,abY,cC,ajV,hlen,e1,e2,e3,wi,wx,w5',w6',w7',wrap32,VX,Nat.reduceEqDiff,Nat.reduceAdd]
   exact⟨s',n1,n2,n3,n4,n5,n6,n7,AD,by rw[n8]⟩
 ·have oU:i=k:=by omega
  subst oU
  rw[List.drop_of_length_le (by rw[List.length_take];omega)] at hv
  simp only[val,Nat.zero_div,Nat.mul_zero,Nat.add_zero] at hv
  simp only[jI,k8,k9,afE,abY,cC,VX,Nat.reduceEqDiff,Nat.reduceAdd]
  exact hQ _ vs k9 AD DS EA hv
end Go.PM
namespace Go.PM
theorem SE {gD vs us ws os:List Nat} {n u2 u1 u0 v1 v0 N k g left:Nat} (G:uJ 4294967296 gD vs n u2 u1 u0 v1 v0) {ρ:cM} {Q:VQ} (hN:us.length=N) (hk2:2≤k) (hkN:k<N) (BX:N≤70368744177664) (hu0:us[k-2]? = some u0)
  (g9:ρ 9 = .ref 0 0 0 N N) (g11:ρ 11=VK .u64 v1) (g12:ρ 12=VK .u64 v0) (g15:ρ 15=VI k) (g17:ρ 17=VK .u64 g) (g18:ρ 18=VK .u64 left) (hh:u2*4294967296+u1=g*v1+left) (hq:val 4294967296 gD / val 4294967296 vs≤g) (hl:left<4294967296) (hgb:g<18446744073709551616)
  (hQ:∀(aU:cM) (g':Nat),val 4294967296 gD / val 4294967296 vs≤g'→g'≤val 4294967296 gD / val 4294967296 vs+1→g'<4294967296→aU 17=VK .u64 g'→aU 8=ρ 8→aU 9=ρ 9→aU 10=ρ 10→aU 11=ρ 11→aU 12=ρ 12→aU 13=ρ 13→aU 14=ρ 14→aU 15=ρ 15→Q (.exit 2) aU (H3 us ws os)) :
  VW ⟨true,false⟩ 0 (.loop fF) Q ρ (H3 us ws os):=by
 have lv1:=G.SW
 have lv0:=G.Xk
 have lu0:=G.adM
 have qlt:=G.abV
 have iU:=G.pos
 refine aN (fun(t:Nat×Nat) aU H=>H=H3 us ws os∧u2*4294967296+u1=t.1*v1+t.2∧val 4294967296 gD / val 4294967296 vs≤t.1∧t.2<4294967296∧t.1<18446744073709551616 ∧
  aU 9 = .ref 0 0 0 N N∧aU 11=VK .u64 v1∧aU 12=VK .u64 v0∧aU 15=VI k∧aU 17=VK .u64 t.1∧aU 18=VK .u64 t.2∧aU 8=ρ 8∧aU 10=ρ 10∧aU 13=ρ 13∧aU 14=ρ 14) (fun t=>4294967296-t.2) (g,left) ⟨rfl,hh,hq,hl,hgb,g9,g11,g12,g15,g17,g18,rfl,rfl,rfl,rfl⟩ ?_
 rintro⟨g,left⟩ Mm H ⟨rfl,hh,hq,hl,hgb,k9,T7,Gn,IS,Gf,Wu,k8,WH,AD,BH⟩
 simp only at hh hq hl hgb Gf Wu
 have e1:bC 1 (.ref 0 0 0 N N) (VI ((k-2:Nat):Int)) (H3 us ws os)=some (.ptr 0 0 (k-2) 0):=by rw[aQ BL (by omega),Nat.zero_add]
 have e2:dG false 1 (.ptr 0 0 (k-2) 0) (H3 us ws os)=some (uV u0):=gL BL hu0
 have wk:IntKind.i64.wrap ((k:Int)-2)=((k-2:Nat):Int):=wrapN _ (by omega) (by omega)
 have wu:IntKind.u64.wrap (u0:Int)=(u0:Int):=eO _ (by omega)
 have ws:=CP left .u64 hl
 have wa:IntKind.u64.wrap (((left*4294967296:Nat):Int)+(u0:Int))=((left*4294967296+u0:Nat):Int):=by rw[←Int.natCast_add];exact eO _ (by omega)
 have wl:IntKind.u64.wrap ((left:Int)+(v1:Int))=((left+v1:Nat):Int):=by rw[←Int.natCast_add];exact eO _ (by omega)
 have same:Mm 9=ρ 9∧Mm 11=ρ 11∧Mm 12=ρ 12∧Mm 15=ρ 15:=⟨by rw[k9,g9],by rw[T7,g11],by rw[Gn,g12],by rw[IS,g15]⟩
 obtain⟨s9,s11,s12,s15⟩:=same
 have down:val 4294967296 gD / val 4294967296 vs<g→∃g',g=g'+1∧IntKind.u64.wrap ((g:Int)-1)=(g':Int)∧u2*4294967296+u1=g'*v1+(left+v1)∧val 4294967296 gD / val 4294967296 vs≤g':=by
  intro h
  have hg1:1≤g:=Nat.lt_of_le_of_lt (Nat.zero_le _) h
  obtain⟨g',rfl⟩:∃g',g=g'+1:=⟨g-1,by omega⟩
  refine⟨g',rfl,?_,?_,by omega⟩
  ·rw[show ((g'+1:Nat):Int)-1=(g':Int) by omega]
   exact eO _ (by omega)
  ·rw[hh,Nat.add_mul]
   omega
 by_cases hA:(4294967296:Int)≤(g:Int)
 ·obtain⟨g',Xn,wg,Sn,K8⟩:=down (by omega)
  by_cases hB:(4294967296:Int)≤((left+v1:Nat):Int)
  ·obtain⟨c1,c2⟩:=G.broken Sn (by omega)
   simp only[fF,k9,T7,Gn,IS,Gf,Wu,hA,hB,wg,wl,VX,Nat.reduceEqDiff,Nat.reduceAdd]
   exact hQ _ g' K8 (G.U7 Sn (by omega) c2) c1 rfl k8 s9 WH s11 s12 AD BH s15
  ·simp only[fF,k9,T7,Gn,IS,Gf,Wu,hA,hB,wg,wl,VX,Nat.reduceEqDiff,Nat.reduceAdd]
   exact⟨(g',left+v1),by simp only;omega,Sn,K8,by simp only;omega,by simp only;omega,by rfl,by rfl,k8,WH,AD,BH⟩
 ·have hgv:g*v0≤4294967295*4294967295:=Nat.mul_le_mul (by omega) (by omega)
  have wm:IntKind.u64.wrap ((g:Int)*(v0:Int))=((g*v0:Nat):Int):=by rw[←Int.natCast_mul];exact eO _ (by omega)
  by_cases hT:((left*4294967296+u0:Nat):Int)<((g*v0:Nat):Int)
  ·obtain⟨g',Xn,wg,Sn,K8⟩:=down (G.too hh (by omega))
   by_cases hB:(4294967296:Int)≤((left+v1:Nat):Int)
   ·obtain⟨c1,c2⟩:=G.broken Sn (by omega)
    simp only[fF,k9,T7,Gn,IS,Gf,Wu,hA,hB,hT,e1,e2,wk,wu,ws,wa,wm,wg,wl,VX,Nat.reduceEqDiff,Nat.reduceAdd]
    exact hQ _ g' K8 (G.U7 Sn (by omega) c2) c1 rfl k8 s9 WH s11 s12 AD BH s15
   ·simp only[fF,k9,T7,Gn,IS,Gf,Wu,hA,hB,hT,e1,e2,wk,wu,ws,wa,wm,wg,wl,VX,Nat.reduceEqDiff,Nat.reduceAdd]
    exact⟨(g',left+v1),by simp only;omega,Sn,K8,by simp only;omega,by simp only;omega,by rfl,by rfl,k8,WH,AD,BH⟩
  ·simp only[fF,k9,T7,Gn,IS,Gf,Wu,hA,hT,e1,e2,wk,wu,ws,wa,wm,VX,Nat.reduceEqDiff,Nat.reduceAdd]
   exact hQ _ g hq (G.U7 hh (by omega) (by omega)) (by omega) Gf k8 s9 WH s11 s12 AD BH s15
theorem Js {X S S' R V q Q P w:Nat} (hs:S=q*V+S') (h:X+P*S+P*w*V*Q=R):X+P*S'+P*V*(q+w*Q)=R:=by
 subst hs
 grind
theorem YW {Dk ws Wx vs:List Nat} {N m n v1 v0 A s:Nat} {ρ:cM} {Q:VQ} (hN:Dk.length=N) (hm:m+(n+2)=N) (BX:N≤70368744177664) (Hu:∀d∈Dk,d<4294967296) (hws:ws.take (n+2)=vs) (hwl:ws.length=n+3) (DS:vs.length=n+2) (EA:∀d∈vs,d<4294967296) (f1:vs[n+1]? = some v1) (f0:vs[n]? = some v0) (iU:1≤v1)
  (hA:val 4294967296 Dk=A) (By:val 4294967296 (Dk.drop m)<val 4294967296 vs) (gZ:Wx.length=m) (jT:∀d∈Wx,d<4294967296)
  (g8:ρ 8=VI s) (g9:ρ 9 = .ref 0 0 0 N N) (g10:ρ 10 = .ref 1 0 0 (n+2) (n+3)) (g11:ρ 11=VK .u64 v1) (g12:ρ 12=VK .u64 v0) (g13:ρ 13 = .ref 2 0 0 m m) (g14:ρ 14=VI ((m:Int)-1))
  (hQ:∀(aU:cM) (us os:List Nat),aU 8=VI s→aU 9 = .ref 0 0 0 N N→aU 13 = .ref 2 0 0 m m→us.length=N→(∀d∈us,d<4294967296)→os.length=m→(∀d∈os,d<4294967296)→val 4294967296 us+val 4294967296 vs*val 4294967296 os=A→val 4294967296 us<val 4294967296 vs→Q (.exit 0) aU (H3 us ws os)) :
  VW ⟨true,false⟩ 0 (.loop mO) Q ρ (H3 Dk ws Wx):=by
 have hVb:=nB EA
 rw[DS] at hVb
 refine aN (fun(t:Nat×List Nat×List Nat) aU H=>t.1≤m∧H=H3 t.2.1 ws t.2.2∧t.2.1.length=N∧(∀d∈t.2.1,d<4294967296)∧t.2.2.length=m∧(∀d∈t.2.2,d<4294967296)∧val 4294967296 (t.2.1.drop t.1)<val 4294967296 vs∧val 4294967296 t.2.1+4294967296^t.1*val 4294967296 vs*val 4294967296 (t.2.2.drop t.1)=A ∧
  aU 8=VI s∧aU 9 = .ref 0 0 0 N N∧aU 10 = .ref 1 0 0 (n+2) (n+3)∧aU 11=VK .u64 v1∧aU 12=VK .u64 v0∧aU 13 = .ref 2 0 0 m m∧aU 14=VI ((t.1:Int)-1)) (fun t=>t.1) (m,Dk,Wx) ⟨Nat.le_refl _,rfl,hN,Hu,gZ,jT,By,by rw[List.drop_of_length_le (by simp only;omega)];simpa[val] using hA,g8,g9,g10,g11,g12,g13,g14⟩ ?_
 rintro⟨j,us,os⟩ Mm H ⟨hj,rfl,Ot,Hu,gZ,jT,aV,hv,k8,k9,WH,T7,Gn,AD,BH⟩
 simp only at hj Ot Hu gZ jT aV hv BH
 by_cases hz:(0:Int)≤(j:Int)-1
 ·obtain⟨i,rfl⟩:∃i,j=i+1:=⟨j-1,by omega⟩
  have KY:((i+1:Nat):Int)-1=(i:Int):=by omega
  rw[KY] at BH hz
  obtain⟨RT,zA,N2,hsW,WT,Y6,uS⟩:=Wt (n:=n+2) Ot (by omega) Hu hVb aV
  generalize Va:(us.drop i).take (n+2+1)=gD at *
  have NH:∀d∈gD,d<4294967296:=fun d hd=>by rw[←Va] at hd;exact Hu d (List.mem_of_mem_drop (List.mem_of_mem_take hd))
  obtain⟨u2,hu2⟩:∃u2,us[i+(n+2)]? = some u2:=⟨_,List.getElem?_eq_getElem (by omega)⟩
  obtain⟨u1,ZB⟩:∃u1,us[i+(n+1)]? = some u1:=⟨_,List.getElem?_eq_getElem (by omega)⟩
  obtain⟨u0,hu0⟩:∃u0,us[i+n]? = some u0:=⟨_,List.getElem?_eq_getElem (by omega)⟩
  have G:uJ 4294967296 gD vs n u2 u1 u0 v1 v0:=⟨by decide,NH,EA,N2,DS,by rw[uS _ (by omega)];exact hu2,by rw[uS _ (by omega)];exact ZB,by rw[uS _ (by omega)];exact hu0,f1,f0,iU,hsW⟩
  have lu2:=G.adX
  have lu1:=G.YZ
  have lv1:=G.SW
  have qlt:=G.abV
  have G4:=G.G4
  have agJ:nS (.ref 1 0 0 (n+2) (n+3)) (H3 us ws os)=some (VI ((n+2:Nat):Int)):=cT alK
  have w1:IntKind.i64.wrap ((i:Int)+((n+2:Nat):Int))=((i+(n+2):Nat):Int):=by rw[←Int.natCast_add];exact wrapN _ rfl (by omega)
  have w2:IntKind.i64.wrap (((i+(n+2):Nat):Int)-1)=((i+(n+1):Nat):Int):=wrapN _ (by omega) (by omega)
  have e2:bC 1 (.ref 0 0 0 N N) (VI ((i+(n+2):Nat):Int)) (H3 us ws os)=some (.ptr 0 0 (i+(n+2)) 0):=by rw[aQ BL (by omega),Nat.zero_add]
  have e1:bC 1 (.ref 0 0 0 N N) (VI ((i+(n+1):Nat):Int)) (H3 us ws os)=some (.ptr 0 0 (i+(n+1)) 0):=by rw[aQ BL (by omega),Nat.zero_add]
  have l2:dG false 1 (.ptr 0 0 (i+(n+2)) 0) (H3 us ws os)=some (uV u2):=gL BL hu2
  have l1:dG false 1 (.ptr 0 0 (i+(n+1)) 0) (H3 us ws os)=some (uV u1):=gL BL ZB
  have wu2:IntKind.u64.wrap (u2:Int)=(u2:Int):=eO _ (by omega)
  have wu1:IntKind.u64.wrap (u1:Int)=(u1:Int):=eO _ (by omega)
  have ws2:=CP u2 .u64 lu2
  have wa:IntKind.u64.wrap (((u2*4294967296:Nat):Int)+(u1:Int))=((u2*4294967296+u1:Nat):Int):=by rw[←Int.natCast_add];exact eO _ (by omega)
  have q1:=T2 (u2*4294967296+u1) v1 (by omega) iU
  have q2:=NG (u2*4294967296+u1) v1 iU
  simp only[mO,k8,k9,WH,T7,Gn,AD,BH,hz,agJ,w1,w2,e1,e2,l1,l2,wu1,wu2,ws2,wa,q1,q2,VX,Nat.reduceEqDiff,Nat.reduceAdd]
  have hh:=Nat.mod_add_div (u2*4294967296+u1) v1
  have hml:=Nat.mod_lt (u2*4294967296+u1) iU
  have hdl:(u2*4294967296+u1) / v1≤u2*4294967296+u1:=Nat.div_le_self _ _
  have Ou:val 4294967296 gD / val 4294967296 vs≤(u2*4294967296+u1) / v1:=by
   have t1:=(Ci (n:=n+1) (xs:=gD) NH (by omega) (by rw[uS _ (by omega)];exact hu2) (by rw[uS _ (by omega)];exact ZB)).2
   have t2:=(xT (n:=n+1) EA DS f1).1
   rw[Nat.le_div_iff_mul_le iU]
   have t3:val 4294967296 gD / val 4294967296 vs*(v1*4294967296^(n+1))≤val 4294967296 gD / val 4294967296 vs*val 4294967296 vs:=Nat.mul_le_mul_left _ t2
   have t4:=Nat.div_mul_le_self (val 4294967296 gD) (val 4294967296 vs)
   have t5:val 4294967296 gD / val 4294967296 vs*v1*4294967296^(n+1)<(u2*4294967296+u1+1)*4294967296^(n+1):=by rw[Nat.mul_assoc];omega
   have:=Nat.lt_of_mul_lt_mul_right t5
   omega
  refine SE (k:=i+(n+2)) G Ot (by omega) (by omega) BX (by rw[show i+(n+2)-2=i+n by omega];exact hu0) k9 T7 Gn (by rfl) (by rfl) (by rfl) (by rw[Nat.mul_comm ((u2*4294967296+u1) / v1)];omega) Ou (by omega) (by omega) ?_
  intro Q6 g' hq K8 hgW r17 r8 r9 r10 r11 r12 r13 r14 r15
  have Qc:Q6 15=VI ((i+(n+2):Nat):Int):=r15
  have r8':Q6 8=VI s:=r8.trans k8
  have r9':Q6 9 = .ref 0 0 0 N N:=r9.trans k9
  have afI:Q6 10 = .ref 1 0 0 (n+2) (n+3):=r10.trans WH
  have agE:Q6 11=VK .u64 v1:=r11.trans T7
  have Ql:Q6 12=VK .u64 v0:=r12.trans Gn
  have QP:Q6 13 = .ref 2 0 0 m m:=r13.trans AD
  have QF:Q6 14=VI i:=r14.trans BH
  have w3:IntKind.i64.wrap (((i+(n+2):Nat):Int)+1)=((i+(n+3):Nat):Int):=wrapN _ (by omega) (by omega)
  have W7:Ee 1 (.ref 0 0 0 N N) (some (VI i)) (some (VI ((i+(n+3):Nat):Int))) none (H3 us ws os)=some (.ref 0 0 i (n+3) (N-i)):=by
   rw[Zl BL (by omega) (by omega),Nat.zero_add,Nat.add_sub_cancel_left]
  simp only[r8',r9',afI,agE,Ql,QP,QF,Qc,r17,w3,W7,VX,Nat.reduceEqDiff,Nat.reduceAdd]
  have nC:g'*val 4294967296 vs≤val 4294967296 gD+val 4294967296 vs:=by
   have:=Nat.mul_le_mul_right (val 4294967296 vs) K8
   rw[Nat.add_mul,Nat.one_mul] at this
   have:=Nat.div_mul_le_self (val 4294967296 gD) (val 4294967296 vs)
   omega
  refine fX rfl ((Ss (pre:=us.take i) (gD:=gD) (post:=us.drop (i+(n+2+1))) (L:=n+3) (o:=i) (by rw[←RT];exact BL) (alK (us:=us) (ws:=ws) (os:=os)) (by decide) (Nat.zero_le _) zA N2 (by omega) hws (by omega) (by omega) NH EA hgW nC).mono ?_)
  rintro r H' ⟨pZ,rfl,BO,UP,hr⟩
  generalize ZV:us.take i++pZ++us.drop (i+(n+2+1))=Ei at *
  have GX:(H3 us ws os).set 0 (.row 0 (Ei.map uV) 1 true)=H3 Ei ws os:=rfl
  rw[GX]
  have ahB:Ei.length=N:=by rw[←ZV,List.length_append,List.length_append,zA,BO,List.length_drop];omega
  have aaS:∀d∈Ei,d<4294967296:=fun d hd=>by
   rw[←ZV,List.mem_append,List.mem_append] at hd
   rcases hd with(hd | hd) | hd
   ·exact Hu d (List.mem_of_mem_take hd)
   ·exact UP d hd
   ·exact Hu d (List.mem_of_mem_drop hd)
  have Re:Ei.drop i=pZ++us.drop (i+(n+2+1)):=by rw[←ZV,List.append_assoc,List.drop_append,List.drop_of_length_le (by omega),zA];simp
  have R6:Ei.take i=us.take i:=by rw[←ZV,List.append_assoc,List.take_append_of_le_length (by omega),List.take_of_length_le (by omega)]
  have QS:val 4294967296 (Ei.drop i)=val 4294967296 pZ:=by rw[Re,wI,Y6,Nat.mul_zero,Nat.add_zero]
  have digit:∀q:Nat,q=val 4294967296 gD / val 4294967296 vs→val 4294967296 pZ=val 4294967296 gD % val 4294967296 vs →
    val 4294967296 (Ei.drop i)<val 4294967296 vs∧val 4294967296 Ei+4294967296^i*val 4294967296 vs*val 4294967296 ((os.set i q).drop i)=A:=by
   rintro q QZ ZC
   have Z8:=Nat.mod_lt (val 4294967296 gD) G4
   refine⟨by rw[QS,ZC];exact Z8,?_⟩
   have h1:=Nat.div_add_mod (val 4294967296 gD) (val 4294967296 vs)
   rw[←QZ,←ZC,Nat.mul_comm] at h1
   have h2:=oN (b:=4294967296) us i
   have h3:=oN (b:=4294967296) Ei i
   rw[R6,zA,QS] at h3
   rw[zA,WT] at h2
   rw[set_drop (by omega),rR,h3]
   rw[h2,Nat.pow_succ] at hv
   exact Js h1.symm hv
  have e3:∀d:Nat,bC 1 (.ref 2 0 0 m m) (VI i) (H3 Ei ws os)=some (.ptr 2 0 i 0)∧cJ 0 1 (.ptr 2 0 i 0) (uV d) (H3 Ei ws os)=some (H3 Ei ws (os.set i d)):=fun d=>by
   refine⟨by rw[aQ aaH (by omega),Nat.zero_add],?_⟩
   rw[cR (f:=uV) (e:=1) aaH (by omega) (Nat.zero_le _) rfl rfl]
   rfl
  have wi:IntKind.i64.wrap ((i:Int)-1)=(i:Int)-1:=wrap64 (by omega) (by omega)
  rcases hr with⟨rfl,hr⟩ | ⟨rfl,Om,ZN⟩
  ·have AF:g'*val 4294967296 vs≤val 4294967296 gD:=by omega
   have QZ:g'=val 4294967296 gD / val 4294967296 vs:=by
    have:=(Nat.le_div_iff_mul_le G4).2 AF
    omega
   have ZC:val 4294967296 pZ=val 4294967296 gD % val 4294967296 vs:=by
    have h1:=Nat.div_add_mod (val 4294967296 gD) (val 4294967296 vs)
    rw[←QZ,Nat.mul_comm] at h1
    omega
   obtain⟨d1,d2⟩:=digit g' QZ ZC
   simp only[r8',r9',afI,agE,Ql,QP,QF,Qc,r17,(e3 g').1,(e3 g').2,wi,wrap32,Nat.mod_eq_of_lt hgW,VX,Nat.reduceEqDiff,Nat.reduceAdd]
   exact⟨(i,Ei,os.set i g'),by simp only;omega,by omega,rfl,ahB,aaS,by rw[List.length_set];exact gZ,kI jT hgW,d1,d2,by (repeat' apply And.intro)<;>first | rfl | trivial⟩
  ·have WQ:val 4294967296 gD / val 4294967296 vs<g':=(Nat.div_lt_iff_lt_mul G4).2 Om
   have hg1:1≤g':=Nat.lt_of_le_of_lt (Nat.zero_le _) WQ
   obtain⟨q,rfl⟩:∃q,g'=q+1:=⟨g'-1,by omega⟩
   have QZ:q=val 4294967296 gD / val 4294967296 vs:=by omega
   have ZC:val 4294967296 pZ=val 4294967296 gD % val 4294967296 vs:=by
    have h1:=Nat.div_add_mod (val 4294967296 gD) (val 4294967296 vs)
    rw[←QZ,Nat.mul_comm] at h1
    rw[Nat.add_mul,Nat.one_mul] at ZN
    omega
   have wq:IntKind.u64.wrap (((q+1:Nat):Int)-1)=(q:Int):=by rw[show ((q+1:Nat):Int)-1=(q:Int) by omega];exact eO _ (by omega)
   obtain⟨d1,d2⟩:=digit q QZ ZC
   simp only[r8',r9',afI,agE,Ql,QP,QF,Qc,r17,wq,(e3 q).1,(e3 q).2,wi,wrap32,Nat.mod_eq_of_lt (show q<4294967296 by omega),VX,Nat.reduceEqDiff,Nat.reduceAdd]
   exact⟨(i,Ei,os.set i q),by simp only;omega,by omega,rfl,ahB,aaS,by rw[List.length_set];exact gZ,kI jT (by omega),d1,d2,by (repeat' apply And.intro)<;>first | rfl | trivial⟩
 ·have RA:j=0:=by omega
  subst RA
  rw[List.drop_zero] at aV
  rw[Nat.pow_zero,Nat.one_mul,List.drop_zero] at hv
  simp only[mO,k8,k9,WH,T7,Gn,AD,BH,hz,VX,Nat.reduceEqDiff,Nat.reduceAdd]
  exact hQ _ us os k8 k9 AD Ot Hu gZ jT hv aV
end Go.PM
namespace Go.PM
theorem Jp {a n:Nat} (hn:(aC 4294967296 a).length=n+1):∃d,(aC 4294967296 a)[n]? = some d∧d≠0∧d<4294967296:=by
 obtain⟨d,hd⟩:∃d,(aC 4294967296 a)[n]? = some d:=⟨_,List.getElem?_eq_getElem (by omega)⟩
 refine⟨d,hd,fun h0 => ?_,eI (by decide) a d (List.mem_of_getElem? hd)⟩
 have:=Mi (b:=4294967296) (by decide) a
 rw[List.getLast?_eq_getElem?,hn,Nat.add_sub_cancel,hd,h0] at this
 exact this rfl
theorem OI {a d:Nat} (h:aC 4294967296 a=[d]):a=d∧0<d∧d<4294967296:=by
 have h1:=bP (b:=4294967296) (by decide) a
 rw[h,val_one] at h1
 obtain⟨e,h2,h3,h4⟩:=Jp (a:=a) (n:=0) (by rw[h];rfl)
 rw[h] at h2
 cases h2
 exact⟨h1.symm,by omega,h4⟩
theorem vQ (a b:Nat) (hb:b≠0) (ha:(aC 4294967296 a).length≤17592186044416) (tG:(aC 4294967296 b).length≤17592186044416):TC 173 [bE a,bE b] (.dY [bE (a / b),bE (a % b)]):=by
 refine TC.walk ⟨true,false⟩ Gg rfl (Nat.le_of_ble_eq_true rfl) (by simp[aL,bH]) (by simp[gH,qI,oY]) ?_
 have c1:=iO a b ha tG
 by_cases Gz:eH a b<0
 ·have aV:a<b:=by
   unfold eH at Gz
   split at Gz
   ·assumption
   ·split at Gz<;>omega
  simp only[qM,nX,c1,Gz,VX,Nat.reduceEqDiff,Nat.reduceAdd]
  rw[Nat.div_eq_of_lt aV,Nat.mod_eq_of_lt aV]
  exact bF (d:=6) uT (aH (bH a))
 have AF:b≤a:=by
  unfold eH at Gz
  split at Gz
  ·omega
  ·omega
 have hbn:(aC 4294967296 b).length≠0:=fun h=>hb ((kK (b:=4294967296) (by decide)).1 (List.length_eq_zero_iff.1 h))
 by_cases h1:(((aC 4294967296 b).length:Nat):Int)=1
 ·obtain⟨d,hd⟩:∃d,aC 4294967296 b=[d]:=by
   match hx:aC 4294967296 b with
   | []=>rw[hx] at hbn;exact absurd rfl hbn
   | [d]=>exact⟨d,rfl⟩
   | _::_::_=>rw[hx] at h1;simp at h1;omega
  obtain⟨rfl,Cv,hdW⟩:=OI hd
  have c2:=uH a b Cv hdW ha
  have e0:nS (bE b) []=some (VI 1):=by rw[bE,Ad,dH,hd];rfl
  have e1:bC 1 (bE b) (VI 0) []=some (.cO (uV b) 0):=by
   rw[bE,hd]
   exact aF (f:=uV) (t := .op) (H:=[]) (size:=1) (k := .i64) (xs:=[b]) (i:=0) rfl rfl
  have e2:=kH (H:=[]) (z:=[.int .u32 0]) (v:=uV (a % b)) rfl rfl rfl
  have e3:=Zc (size:=1) (v:=Value.int .u32 ((b:Nat):Int))
  simp only[qM,nX,c1,Gz,e0,e1,c2,e2,VX,Nat.reduceEqDiff,Nat.reduceAdd]
  refine JK (ds:=[a % b]) (t := .cl 1) (fun d hd => ?_) (by show 1≤70368744177664;decide) (val_one _) fun t' ht => ?_
  ·rw[List.mem_singleton] at hd
   subst hd
   exact Nat.lt_of_lt_of_le (Nat.mod_lt _ Cv) (Nat.le_of_lt hdW)
  ·simp only[VX,Nat.reduceEqDiff,Nat.reduceAdd]
   exact bF (d:=6) (aH (bH _)) (Yz (d:=5) ht)
 obtain⟨n,hn⟩:∃n,(aC 4294967296 b).length=n+2:=⟨(aC 4294967296 b).length-2,by omega⟩
 obtain⟨t,ht,ht0,htW⟩:=Jp (a:=b) (n:=n+1) hn
 obtain⟨s,hs,cl,XZ⟩:=Sx ht0 htW
 have hS:0<2^s:=Nat.pow_pos (by decide)
 have hSW:2^s*2^(32-s)=4294967296:=by rw[←Nat.pow_add,show s+(32-s)=32 by omega]
 have hla:=dJ (b:=4294967296) (by decide) AF
 have e0:nS (bE b) []=some (VI ((n+2:Nat):Int)):=by rw[bE,Ad,dH,hn]
 have w0:IntKind.i64.wrap (((n+2:Nat):Int)-1)=((n+1:Nat):Int):=wrapN _ (by omega) (by omega)
 have UX:¬(((n+2:Nat):Int)=1):=by omega
 have e1:bC 1 (bE b) (VI ((n+1:Nat):Int)) []=some (.cO (uV t) 0):=aF (f:=uV) (t := .op) (H:=[]) (size:=1) (k := .i64) ht rfl
 simp only[qM,nX,c1,Gz,e0,UX,w0,e1,cl,VX,Nat.reduceEqDiff,Nat.reduceAdd]
 have fa:[bE a,VI (s:Int)].mapM (fz depth ([]:aA))=some [bE a,VI (s:Int)]:=WA (aI (bH a)) (aI rfl)
 refine FC.call (xD a s hs ha) rfl fa ?_
 rintro r L ⟨GO,rfl,rfl,hAl,hAd,hAv,hAt⟩
 simp only[VX,Nat.reduceEqDiff,Nat.reduceAdd]
 have fb:∀H:aA,[bE b,VI (s:Int)].mapM (fz depth H)=some [bE b,VI (s:Int)]:=fun H=>WA (aI (bH b)) (aI rfl)
 refine FC.call (xD b s hs tG) rfl (fb _) ?_
 rintro r L ⟨Dp,rfl,rfl,hBl,hBd,hBv,hBt⟩
 rw[hn] at hBl
 simp only[hn,List.length_singleton,VX,Nat.reduceEqDiff,Nat.reduceAdd]
 have ahA:b*2^s<4294967296^(n+2):=by
  have h2:=(xT (n:=n+1) (eI (b:=4294967296) (by decide) b) hn ht).2
  rw[bP (by decide)] at h2
  have h3:b*2^s<(t+1)*4294967296^(n+1)*2^s:=Nat.mul_lt_mul_of_pos_right h2 hS
  have h4:(t+1)*4294967296^(n+1)*2^s=(t+1)*2^s*4294967296^(n+1):=by grind
  have h5:(t+1)*2^s≤4294967296:=by
   have h6:t*2^s<2^(32-s)*2^s:=by rw[Nat.mul_comm (2^(32-s)),hSW];exact XZ
   have h7:=Nat.lt_of_mul_lt_mul_right h6
   have h8:(t+1)*2^s≤2^(32-s)*2^s:=Nat.mul_le_mul_right _ h7
   rwa [Nat.mul_comm (2^(32-s)),hSW] at h8
  have h9:(t+1)*2^s*4294967296^(n+1)≤4294967296*4294967296^(n+1):=Nat.mul_le_mul_right _ h5
  have h10:4294967296*4294967296^(n+1)=4294967296^(n+2):=by rw[Nat.pow_succ 4294967296 (n+1)];exact Nat.mul_comm _ _
  omega
 have hVl:(aC 4294967296 (b*2^s)).length=n+2:=by
  have h2:=kU (b:=4294967296) (by decide) ahA
  have h3:b≤b*2^s:=Nat.le_mul_of_pos_right b hS
  have h4:=dJ (b:=4294967296) (by decide) h3
  omega
 refine qH (rows:=Dp) (m:=b*2^s) (by rfl) (by omega) (by omega) (by omega) (fun d hd=>hBd d (List.mem_of_mem_take hd)) (by rw[List.take_of_length_le (by omega)];exact hBv) fun k hk he => ?_
 have hk2:k=n+2:=by
  have:=congrArg List.length he
  rw[hVl,List.length_take] at this
  omega
 subst hk2
 generalize Oq:aC 4294967296 (b*2^s)=vs at *
 have EA:∀d∈vs,d<4294967296:=by rw[←Oq];exact eI (by decide) _
 have KW:val 4294967296 vs=b*2^s:=by rw[←Oq];exact bP (by decide) _
 obtain⟨v1,f1⟩:∃v1,vs[n+1]? = some v1:=⟨_,List.getElem?_eq_getElem (by omega)⟩
 obtain⟨v0,f0⟩:∃v0,vs[n]? = some v0:=⟨_,List.getElem?_eq_getElem (by omega)⟩
 have hv1:1≤v1:=by
  obtain⟨d,hd,Cv,_⟩:=Jp (a:=b*2^s) (n:=n+1) (by rw[Oq];exact hVl)
  rw[Oq,f1] at hd
  cases hd
  omega
 have b1:Dp[n+1]? = some v1:=by rw[←f1,←he,List.getElem?_take_of_lt (by omega)]
 have b0:Dp[n]? = some v0:=by rw[←f0,←he,List.getElem?_take_of_lt (by omega)]
 have lv1:=EA v1 (List.mem_of_getElem? f1)
 have lv0:=EA v0 (List.mem_of_getElem? f0)
 have x1:bC 1 (.ref 1 0 0 (n+2) (n+2+1)) (VI ((n+1:Nat):Int)) [.row 0 (GO.map uV) 1 true,.row 0 (Dp.map uV) 1 true]=some (.ptr 1 0 (n+1) 0):=by rw[aQ (by rfl) (by omega),Nat.zero_add]
 have x0:bC 1 (.ref 1 0 0 (n+2) (n+2+1)) (VI ((n:Nat):Int)) [.row 0 (GO.map uV) 1 true,.row 0 (Dp.map uV) 1 true]=some (.ptr 1 0 n 0):=by rw[aQ (by rfl) (by omega),Nat.zero_add]
 have y1:dG false 1 (.ptr 1 0 (n+1) 0) [.row 0 (GO.map uV) 1 true,.row 0 (Dp.map uV) 1 true]=some (uV v1):=gL (rows:=Dp) (g:=0) (w:=true) (by rfl) b1
 have y0:dG false 1 (.ptr 1 0 n 0) [.row 0 (GO.map uV) 1 true,.row 0 (Dp.map uV) 1 true]=some (uV v0):=gL (rows:=Dp) (g:=0) (w:=true) (by rfl) b0
 have z0:nS (.ref 1 0 0 (n+2) (n+2+1)) [.row 0 (GO.map uV) 1 true,.row 0 (Dp.map uV) 1 true]=some (VI ((n+2:Nat):Int)):=cT (r:=(Dp.map uV,1,true)) (by rfl)
 have z1:nS (.ref 0 0 0 ((aC 4294967296 a).length+1) ((aC 4294967296 a).length+1)) [.row 0 (GO.map uV) 1 true,.row 0 (Dp.map uV) 1 true]=some (VI (((aC 4294967296 a).length+1:Nat):Int)):=cT (r:=(GO.map uV,1,true)) (by rfl)
 have w2:IntKind.i64.wrap (((n+2:Nat):Int)-2)=((n:Nat):Int):=wrapN _ (by omega) (by omega)
 have wv1:IntKind.u64.wrap (v1:Int)=(v1:Int):=eO _ (by omega)
 have wv0:IntKind.u64.wrap (v0:Int)=(v0:Int):=eO _ (by omega)
 obtain⟨m,hm⟩:∃m,m+(n+2)=(aC 4294967296 a).length+1:=⟨(aC 4294967296 a).length+1-(n+2),by omega⟩
 have wm:IntKind.i64.wrap ((((aC 4294967296 a).length+1:Nat):Int)-((n+2:Nat):Int))=(m:Int):=wrapN _ (by omega) (by omega)
 have wm1:IntKind.i64.wrap ((m:Int)-1)=(m:Int)-1:=wrap64 (by omega) (by omega)
 have mk:=Ud m 0 (by omega) (H:=[.row 0 (GO.map uV) 1 true,.row 0 (Dp.map uV) 1 true])
 have z2:nS (.ref 2 0 0 m m) (H3 GO Dp (List.replicate m 0))=some (VI m):=cT (r:=((List.replicate m 0).map uV,1,true)) (by rfl)
 simp only[w0,x1,x0,y1,y0,z0,z1,w2,wv1,wv0,wm,mk,z2,wm1,List.length_cons,List.length_nil,VX,Nat.reduceEqDiff,Nat.reduceAdd]
 have By:val 4294967296 (GO.drop m)<val 4294967296 vs:=by
  obtain⟨d,hd⟩:∃d,GO[(aC 4294967296 a).length]? = some d:=⟨_,List.getElem?_eq_getElem (by omega)⟩
  have h2:=(xT (b:=4294967296) (xs:=GO.drop m) (n:=n+1) (t:=d) (fun x hx=>hAd x (List.mem_of_mem_drop hx)) (by rw[List.length_drop];omega) (by rw[List.getElem?_drop,show m+(n+1)=(aC 4294967296 a).length by omega];exact hd)).2
  have h3:=hAt d hd
  have h4:=(xT (n:=n+1) (eI (b:=4294967296) (by decide) b) hn ht).1
  rw[bP (by decide)] at h4
  have h5:(d+1)*4294967296^(n+1)≤2^s*4294967296^(n+1):=Nat.mul_le_mul_right _ h3
  have h6:1*4294967296^(n+1)≤t*4294967296^(n+1):=Nat.mul_le_mul_right _ (by omega)
  have h7:1*4294967296^(n+1)*2^s≤b*2^s:=Nat.mul_le_mul_right _ (by omega)
  rw[KW]
  rw[Nat.one_mul,Nat.mul_comm] at h7
  omega
 refine YW (Dk:=GO) (ws:=Dp) (Wx:=List.replicate m 0) (vs:=vs) (N:=(aC 4294967296 a).length+1) (m:=m) (n:=n) (A:=a*2^s) (s:=s) hAl hm (by omega) hAd he hBl hVl EA f1 f0 hv1 hAv By (by simp) (yR (by decide) _) (by rfl) (by rfl) (by rfl) (by rfl) (by rfl) (by rfl) (by rfl) ?_
 intro vI us os r8 r9 r13 Ot Hu gZ jT hv aV
 rw[KW] at hv aV
 have hq:val 4294967296 os=a / b:=by
  rw[←Nat.mul_div_mul_right a b hS,←hv,Nat.add_mul_div_left _ _ (by omega),Nat.div_eq_of_lt aV,Nat.zero_add]
 have hr:val 4294967296 us=a % b*2^s:=by
  rw[←Nat.mul_mod_mul_right,←hv,Nat.add_mul_mod_self_left,Nat.mod_eq_of_lt aV]
 simp only[r9,VX,Nat.reduceEqDiff,Nat.reduceAdd]
 refine qH (rows:=us) (m:=a % b*2^s) BL (by omega) (Nat.le_refl _) (by omega) (fun d hd=>Hu d (List.mem_of_mem_take hd)) (by rw[List.take_of_length_le (by omega)];exact hr) fun k hk he2 => ?_
 have z3:nS (.ref 0 0 0 k ((aC 4294967296 a).length+1)) (H3 us Dp os)=some (VI k):=cT BL
 simp only[z3,VX,Nat.reduceEqDiff,Nat.reduceAdd]
 refine Vx (us:=us) (k:=k) (N:=(aC 4294967296 a).length+1) (s:=s) (w0:=2^(32-s)) hs hSW Ot hk (by omega) Hu r8 (by rfl) (by rfl) (by rfl) ?_
 intro Mm Ei q9 q13 ahB aaS hv'
 have asO:Mm 13 = .ref 2 0 0 m m:=q13.trans r13
 have CI:val 4294967296 (Ei.take k)=a % b:=by
  rw[hv',he2,bP (by decide),Nat.mul_div_cancel _ hS]
 simp only[q9,asO,VX,Nat.reduceEqDiff,Nat.reduceAdd]
 refine qH (rows:=os) (m:=a / b) aaH (by omega) (Nat.le_refl _) (by omega) (fun d hd=>jT d (List.mem_of_mem_take hd)) (by rw[List.take_of_length_le (by omega)];exact hq) fun k2 hk2 he3 => ?_
 simp only[q9,VX,Nat.reduceEqDiff,Nat.reduceAdd]
 refine qH (rows:=Ei) (m:=a % b) BL (by omega) hk (by omega) (fun d hd=>aaS d (List.mem_of_mem_take hd)) CI fun k3 hk3 he4 => ?_
 simp only[VX,Nat.reduceEqDiff,Nat.reduceAdd]
 exact bF (d:=6) (IX (d:=5) aaH (by omega) hk2 he3) (IX (d:=5) BL (by omega) (by omega) he4)
end Go.PM
namespace Go.PM
abbrev H2 (us os:List Nat):aA:=[.row 0 (us.map tV) 1 true,.row 0 (os.map tV) 1 true]
theorem Se {us os:List Nat}:aK (H2 us os) 0 0=some (us.map tV,1,true):=rfl
theorem alO {us os:List Nat}:aK (H2 us os) 1 0=some (os.map tV,1,true):=rfl
theorem abC {P a Z:Nat} {y:Int} (h:(a:Int)+(P:Int)*y=(Z:Int)) (ha:a<P) (hZ:Z<P):y=0∧a=Z:=by
 have hy:y=0:=by
  rcases Int.lt_trichotomy y 0 with h1 | h1 | h1
  ·have:(P:Int)*y≤(P:Int)*(-1):=Int.mul_le_mul_of_nonneg_left (by omega) (by omega)
   omega
  ·exact h1
  ·have:(P:Int)*1≤(P:Int)*y:=Int.mul_le_mul_of_nonneg_left (by omega) (by omega)
   omega
 subst hy
 rw[Int.mul_zero] at h
 exact⟨rfl,by omega⟩
theorem Su {us:List Nat} {i n N V:Nat} (hN:us.length=N) (cC:i+n<N) (hd:∀d∈us,d<1000000000) (hV:V<1000000000^n) (By:val 1000000000 (us.drop (i+1))<V) :
  us=us.take i++(us.drop i).take (n+1)++us.drop (i+(n+1))∧(us.take i).length=i∧((us.drop i).take (n+1)).length=n+1∧val 1000000000 ((us.drop i).take (n+1))<1000000000*V∧val 1000000000 (us.drop i)=val 1000000000 ((us.drop i).take (n+1))∧val 1000000000 (us.drop (i+(n+1)))=0∧∀j,j<n+1→((us.drop i).take (n+1))[j]? = us[i+j]? := by
 obtain⟨x,hx⟩:∃x,us[i]? = some x:=⟨_,List.getElem?_eq_getElem (by omega)⟩
 have lx:=hd x (List.mem_of_getElem? hx)
 have h1:=qY (b:=1000000000) hx
 have h2:val 1000000000 (us.drop i)<1000000000*V:=by
  have:1000000000*(val 1000000000 (us.drop (i+1))+1)≤1000000000*V:=Nat.mul_le_mul_left _ By
  omega
 have h3:=oN (b:=1000000000) (us.drop i) (n+1)
 have h4:((us.drop i).take (n+1)).length=n+1:=by rw[List.length_take,List.length_drop];omega
 rw[h4,List.drop_drop] at h3
 have h5:val 1000000000 (us.drop (i+(n+1)))=0:=by
  rcases Nat.eq_zero_or_pos (val 1000000000 (us.drop (i+(n+1)))) with h | h
  ·exact h
  ·have h6:1000000000^(n+1)*1≤1000000000^(n+1)*val 1000000000 (us.drop (i+(n+1))):=Nat.mul_le_mul_left _ h
   have h7:1000000000*V≤1000000000^(n+1):=by rw[Nat.pow_succ,Nat.mul_comm];exact Nat.mul_le_mul_right _ (by omega)
   omega
 rw[h5,Nat.mul_zero,Nat.add_zero] at h3
 refine⟨?_,by rw[List.length_take];omega,h4,by omega,h3,h5,fun j hj => ?_⟩
 ·rw[List.append_assoc,←List.drop_drop,List.take_append_drop,List.take_append_drop]
 ·rw[List.getElem?_take_of_lt hj,List.getElem?_drop]
theorem leT {g:Nat} (h:(1000000000:Int)≤(g:Int)):1000000000≤g:=by omega
theorem YC {g:Nat} (h:¬(1000000000:Int)≤(g:Int)):g<1000000000:=by omega
theorem ltC {a b:Nat} (h:(a:Int)<(b:Int)):a<b:=by omega
theorem arL {a b:Nat} (h:¬(a:Int)<(b:Int)):b≤a:=by omega
theorem LJ {a:Nat} (h:a*1000000000≤9223372036854775807):IntKind.i64.wrap ((a:Int)*1000000000)=((a*1000000000:Nat):Int):=wrapN _ (by omega) h
theorem Mz {a b:Nat} (h:a+b≤9223372036854775807):IntKind.i64.wrap ((a:Int)+(b:Int))=((a+b:Nat):Int):=wrapN _ (by omega) h
theorem UN {a b:Nat} (h:a*b≤9223372036854775807):IntKind.i64.wrap ((a:Int)*(b:Int))=((a*b:Nat):Int):=wrapN _ (by simp) h
theorem x17 {a:Nat} (h:a<1000000000):a*1000000000≤9223372036854775807:=by omega
theorem x18 {a b:Nat} (h:a<1000000000) (hb:b<1000000000):a*1000000000+b≤1000000000000000000:=by omega
theorem Pn {gD vs us os:List Nat} {n u2 u1 u0 v1 v0 N i g left:Nat} (G:uJ 1000000000 gD vs n u2 u1 u0 v1 v0) {ρ:cM} {Q:VQ} (hN:us.length=N) (hiN:i+(n+2)<N) (BX:N≤70368744177664) (hu0:us[i+n]? = some u0)
  (g13:ρ 13 = .ref 0 0 0 N N) (g14:ρ 14=gA vs) (g15:ρ 15=VI ((n+2:Nat):Int)) (g17:ρ 17=VI i) (g19:ρ 19=VI g) (g20:ρ 20=VI left) (hh:u2*1000000000+u1=g*v1+left) (hq:val 1000000000 gD / val 1000000000 vs≤g) (hl:left<1000000000) (hgb:g≤1000000000000000000)
  (hQ:∀(aU:cM) (g':Nat),val 1000000000 gD / val 1000000000 vs≤g'→g'≤val 1000000000 gD / val 1000000000 vs+1→g'<1000000000→aU 19=VI g'→aU 12=ρ 12→aU 13=ρ 13→aU 14=ρ 14→aU 15=ρ 15→aU 16=ρ 16→aU 17=ρ 17→Q (.exit 2) aU (H2 us os)) :
  VW ⟨true,false⟩ 0 (.loop fD) Q ρ (H2 us os):=by
 have lv1:=G.SW
 have lv0:=G.Xk
 have lu0:=G.adM
 have qlt:=G.abV
 have iU:=G.pos
 have DS:=G.Kp
 refine aN (fun(t:Nat×Nat) aU H=>H=H2 us os∧u2*1000000000+u1=t.1*v1+t.2∧val 1000000000 gD / val 1000000000 vs≤t.1∧t.2<1000000000∧t.1≤1000000000000000000 ∧
  aU 13 = .ref 0 0 0 N N∧aU 14=gA vs∧aU 15=VI ((n+2:Nat):Int)∧aU 17=VI i∧aU 19=VI t.1∧aU 20=VI t.2∧aU 12=ρ 12∧aU 16=ρ 16) (fun t=>1000000000-t.2) (g,left) ⟨rfl,hh,hq,hl,hgb,g13,g14,g15,g17,g19,g20,rfl,rfl⟩ ?_
 rintro⟨g,left⟩ Mm H ⟨rfl,hh,hq,hl,hgb,AD,BH,IS,Gf,ZE,k20,Gn,ZH⟩
 simp only at hh hq hl hgb ZE k20
 have f1:bC 1 (gA vs) (VI ((n+1:Nat):Int)) (H2 us os)=some (.cO (tV v1) 0):=aF (f:=tV) (t := .op) (size:=1) (k := .i64) G.f1 rfl
 have f0:bC 1 (gA vs) (VI (n:Int)) (H2 us os)=some (.cO (tV v0) 0):=aF (f:=tV) (t := .op) (size:=1) (k := .i64) G.f0 rfl
 have wn2:IntKind.i64.wrap (((n+2:Nat):Int)-2)=(n:Int):=wrapN _ (by omega) (by omega)
 have wn1:IntKind.i64.wrap (((n+2:Nat):Int)-1)=((n+1:Nat):Int):=wrapN _ (by omega) (by omega)
 have wi:IntKind.i64.wrap ((i:Int)+((n+2:Nat):Int))=((i+(n+2):Nat):Int):=wrapN _ (by omega) (by omega)
 have wi2:IntKind.i64.wrap (((i+(n+2):Nat):Int)-2)=((i+n:Nat):Int):=wrapN _ (by omega) (by omega)
 have e1:bC 1 (.ref 0 0 0 N N) (VI ((i+n:Nat):Int)) (H2 us os)=some (.ptr 0 0 (i+n) 0):=by rw[aQ Se (by omega),Nat.zero_add]
 have e2:dG false 1 (.ptr 0 0 (i+n) 0) (H2 us os)=some (VI (u0:Int)):=JN Se hu0
 have wl:IntKind.i64.wrap ((left:Int)+(v1:Int))=((left+v1:Nat):Int):=wrapN _ (by omega) (by omega)
 have down:val 1000000000 gD / val 1000000000 vs<g→∃g',g=g'+1∧IntKind.i64.wrap ((g:Int)-1)=(g':Int)∧u2*1000000000+u1=g'*v1+(left+v1)∧val 1000000000 gD / val 1000000000 vs≤g':=by
  intro h
  have hg1:1≤g:=Nat.lt_of_le_of_lt (Nat.zero_le _) h
  obtain⟨g',rfl⟩:∃g',g=g'+1:=⟨g-1,by omega⟩
  refine⟨g',rfl,wrapN _ (by omega) (by omega),?_,by omega⟩
  rw[hh,Nat.add_mul]
  omega
 have hmu:∀g':Nat,left+v1<1000000000→1000000000-(g',left+v1).2<1000000000-(g,left).2:=fun g' h=>by
  show 1000000000-(left+v1)<1000000000-left
  omega
 have hle:∀g':Nat,g=g'+1→g'≤1000000000000000000:=fun g' h=>by
  omega
 have apQ:left*1000000000+u0≤9223372036854775807:=Nat.le_trans (x18 hl lu0) (by decide)
 have aoR:left*1000000000≤9223372036854775807:=x17 hl
 have ws:IntKind.i64.wrap ((left:Int)*1000000000)=((left*1000000000:Nat):Int):=LJ aoR
 have wa:IntKind.i64.wrap (((left*1000000000:Nat):Int)+(u0:Int))=((left*1000000000+u0:Nat):Int):=Mz apQ
 obtain⟨s13,s14,s15,s17⟩:Mm 13=ρ 13∧Mm 14=ρ 14∧Mm 15=ρ 15∧Mm 17=ρ 17:=⟨by rw[AD,g13],by rw[BH,g14],by rw[IS,g15],by rw[Gf,g17]⟩
 by_cases hA:(1000000000:Int)≤(g:Int)
 ·have hA':=leT hA
  obtain⟨g',Xn,wg,Sn,K8⟩:=down (Nat.lt_of_lt_of_le qlt hA')
  by_cases hB:(1000000000:Int)≤((left+v1:Nat):Int)
  ·obtain⟨c1,c2⟩:=G.broken Sn (leT hB)
   simp only[fD,AD,BH,IS,Gf,ZE,k20,hA,hB,f1,wn1,wg,wl,VX,Nat.reduceEqDiff,Nat.reduceAdd]
   exact hQ _ g' K8 (G.U7 Sn (Nat.le_of_lt c1) c2) c1 rfl Gn s13 s14 s15 ZH s17
  ·simp only[fD,AD,BH,IS,Gf,ZE,k20,hA,hB,f1,wn1,wg,wl,VX,Nat.reduceEqDiff,Nat.reduceAdd]
   refine⟨(g',left+v1),hmu g' (YC hB),Sn,K8,YC hB,hle g' Xn,?_⟩
   exact⟨rfl,rfl,Gn,ZH⟩
 ·have hA':=YC hA
  have hgv:g*v0≤999999999*999999999:=Nat.mul_le_mul (Nat.le_of_lt_succ hA') (Nat.le_of_lt_succ lv0)
  have wm:IntKind.i64.wrap ((g:Int)*(v0:Int))=((g*v0:Nat):Int):=UN (Nat.le_trans hgv (by decide))
  by_cases hT:((left*1000000000+u0:Nat):Int)<((g*v0:Nat):Int)
  ·obtain⟨g',Xn,wg,Sn,K8⟩:=down (G.too hh (ltC hT))
   by_cases hB:(1000000000:Int)≤((left+v1:Nat):Int)
   ·obtain⟨c1,c2⟩:=G.broken Sn (leT hB)
    simp only[fD,AD,BH,IS,Gf,ZE,k20,hA,hB,hT,f1,f0,e1,e2,wn1,wn2,wi,wi2,ws,wa,wm,wg,wl,VX,Nat.reduceEqDiff,Nat.reduceAdd]
    exact hQ _ g' K8 (G.U7 Sn (Nat.le_of_lt c1) c2) c1 rfl Gn s13 s14 s15 ZH s17
   ·simp only[fD,AD,BH,IS,Gf,ZE,k20,hA,hB,hT,f1,f0,e1,e2,wn1,wn2,wi,wi2,ws,wa,wm,wg,wl,VX,Nat.reduceEqDiff,Nat.reduceAdd]
    refine⟨(g',left+v1),hmu g' (YC hB),Sn,K8,YC hB,hle g' Xn,?_⟩
    exact⟨rfl,rfl,Gn,ZH⟩
  ·simp only[fD,AD,BH,IS,Gf,ZE,k20,hA,hT,f0,e1,e2,wn2,wi,wi2,ws,wa,wm,VX,Nat.reduceEqDiff,Nat.reduceAdd]
   exact hQ _ g hq (G.U7 hh (Nat.le_of_lt hA') (arL hT)) hA' ZE Gn s13 s14 s15 ZH s17
theorem MS {Dk Wx vs:List Nat} {N m n v1 v0 A s:Nat} {ρ:cM} {Q:VQ} (hN:Dk.length=N) (hm:m+(n+2)=N) (BX:N≤70368744177664) (Hu:∀d∈Dk,d<1000000000) (DS:vs.length=n+2) (EA:∀d∈vs,d<1000000000) (f1:vs[n+1]? = some v1) (f0:vs[n]? = some v0) (iU:1≤v1)
  (hA:val 1000000000 Dk=A) (By:val 1000000000 (Dk.drop m)<val 1000000000 vs) (gZ:Wx.length=m) (jT:∀d∈Wx,d<1000000000)
  (g12:ρ 12=VI s) (g13:ρ 13 = .ref 0 0 0 N N) (g14:ρ 14=gA vs) (g15:ρ 15=VI ((n+2:Nat):Int)) (g16:ρ 16 = .ref 1 0 0 m m) (g17:ρ 17=VI ((m:Int)-1))
  (hQ:∀(aU:cM) (us os:List Nat),aU 12=VI s→aU 13 = .ref 0 0 0 N N→aU 16 = .ref 1 0 0 m m→us.length=N→(∀d∈us,d<1000000000)→os.length=m→(∀d∈os,d<1000000000)→val 1000000000 us+val 1000000000 vs*val 1000000000 os=A→val 1000000000 us<val 1000000000 vs→Q (.exit 0) aU (H2 us os)) :
  VW ⟨true,false⟩ 0 (.loop gP) Q ρ (H2 Dk Wx):=by
 have hVb:=nB EA
 rw[DS] at hVb
 refine aN (fun(t:Nat×List Nat×List Nat) aU H=>t.1≤m∧H=H2 t.2.1 t.2.2∧t.2.1.length=N∧(∀d∈t.2.1,d<1000000000)∧t.2.2.length=m∧(∀d∈t.2.2,d<1000000000)∧val 1000000000 (t.2.1.drop t.1)<val 1000000000 vs∧val 1000000000 t.2.1+1000000000^t.1*val 1000000000 vs*val 1000000000 (t.2.2.drop t.1)=A ∧
  aU 12=VI s∧aU 13 = .ref 0 0 0 N N∧aU 14=gA vs∧aU 15=VI ((n+2:Nat):Int)∧aU 16 = .ref 1 0 0 m m∧aU 17=VI ((t.1:Int)-1)) (fun t=>t.1) (m,Dk,Wx) ⟨Nat.le_refl _,rfl,hN,Hu,gZ,jT,By,by rw[List.drop_of_length_le (by simp only;omega)];simpa[val] using hA,g12,g13,g14,g15,g16,g17⟩ ?_
 rintro⟨j,us,os⟩ Mm H ⟨hj,rfl,Ot,Hu,gZ,jT,aV,hv,Gn,AD,BH,IS,ZH,Gf⟩
 simp only at hj Ot Hu gZ jT aV hv Gf
 by_cases hz:(0:Int)≤(j:Int)-1
 ·obtain⟨i,rfl⟩:∃i,j=i+1:=⟨j-1,by omega⟩
  have KY:((i+1:Nat):Int)-1=(i:Int):=by omega
  rw[KY] at Gf hz
  obtain⟨RT,zA,N2,hsW,WT,Y6,uS⟩:=Su (n:=n+2) Ot (by omega) Hu hVb aV
  generalize Va:(us.drop i).take (n+2+1)=gD at *
  have NH:∀d∈gD,d<1000000000:=fun d hd=>by rw[←Va] at hd;exact Hu d (List.mem_of_mem_drop (List.mem_of_mem_take hd))
  obtain⟨u2,hu2⟩:∃u2,us[i+(n+2)]? = some u2:=⟨_,List.getElem?_eq_getElem (by omega)⟩
  obtain⟨u1,ZB⟩:∃u1,us[i+(n+1)]? = some u1:=⟨_,List.getElem?_eq_getElem (by omega)⟩
  obtain⟨u0,hu0⟩:∃u0,us[i+n]? = some u0:=⟨_,List.getElem?_eq_getElem (by omega)⟩
  have G:uJ 1000000000 gD vs n u2 u1 u0 v1 v0:=⟨by decide,NH,EA,N2,DS,by rw[uS _ (by omega)];exact hu2,by rw[uS _ (by omega)];exact ZB,by rw[uS _ (by omega)];exact hu0,f1,f0,iU,hsW⟩
  have lu2:=G.adX
  have lu1:=G.YZ
  have lv1:=G.SW
  have qlt:=G.abV
  have G4:=G.G4
  have w1:IntKind.i64.wrap ((i:Int)+((n+2:Nat):Int))=((i+(n+2):Nat):Int):=wrapN _ (by omega) (by omega)
  have w2:IntKind.i64.wrap (((i+(n+2):Nat):Int)-1)=((i+(n+1):Nat):Int):=wrapN _ (by omega) (by omega)
  have wn1:IntKind.i64.wrap (((n+2:Nat):Int)-1)=((n+1:Nat):Int):=wrapN _ (by omega) (by omega)
  have ev1:bC 1 (gA vs) (VI ((n+1:Nat):Int)) (H2 us os)=some (.cO (tV v1) 0):=aF (f:=tV) (t := .op) (size:=1) (k := .i64) f1 rfl
  have e2:bC 1 (.ref 0 0 0 N N) (VI ((i+(n+2):Nat):Int)) (H2 us os)=some (.ptr 0 0 (i+(n+2)) 0):=by rw[aQ Se (by omega),Nat.zero_add]
  have e1:bC 1 (.ref 0 0 0 N N) (VI ((i+(n+1):Nat):Int)) (H2 us os)=some (.ptr 0 0 (i+(n+1)) 0):=by rw[aQ Se (by omega),Nat.zero_add]
  have l2:dG false 1 (.ptr 0 0 (i+(n+2)) 0) (H2 us os)=some (VI (u2:Int)):=JN Se hu2
  have l1:dG false 1 (.ptr 0 0 (i+(n+1)) 0) (H2 us os)=some (VI (u1:Int)):=JN Se ZB
  have aqQ:u2*1000000000+u1≤1000000000000000000:=x18 lu2 lu1
  have arK:u2*1000000000≤9223372036854775807:=x17 lu2
  have aiU:u2*1000000000+u1≤9223372036854775807:=Nat.le_trans aqQ (by decide)
  have ws2:IntKind.i64.wrap ((u2:Int)*1000000000)=((u2*1000000000:Nat):Int):=LJ arK
  have wa:IntKind.i64.wrap (((u2*1000000000:Nat):Int)+(u1:Int))=((u2*1000000000+u1:Nat):Int):=Mz aiU
  have q1:=IU (u2*1000000000+u1) v1 aiU iU
  have q2:=I7 (u2*1000000000+u1) v1 iU
  simp only[gP,Gn,AD,BH,IS,ZH,Gf,hz,w1,w2,wn1,ev1,e1,e2,l1,l2,ws2,wa,q1,q2,VX,Nat.reduceEqDiff,Nat.reduceAdd]
  clear ws2 wa q1 q2 e1 e2 l1 l2 ev1 w1 w2 wn1
  have hh:=Nat.mod_add_div (u2*1000000000+u1) v1
  have hml:=Nat.mod_lt (u2*1000000000+u1) iU
  have hdl:(u2*1000000000+u1) / v1≤u2*1000000000+u1:=Nat.div_le_self _ _
  have Ou:val 1000000000 gD / val 1000000000 vs≤(u2*1000000000+u1) / v1:=by
   have t1:=(Ci (n:=n+1) (xs:=gD) NH (by omega) (by rw[uS _ (by omega)];exact hu2) (by rw[uS _ (by omega)];exact ZB)).2
   have t2:=(xT (n:=n+1) EA DS f1).1
   rw[Nat.le_div_iff_mul_le iU]
   have t3:val 1000000000 gD / val 1000000000 vs*(v1*1000000000^(n+1))≤val 1000000000 gD / val 1000000000 vs*val 1000000000 vs:=Nat.mul_le_mul_left _ t2
   have t4:=Nat.div_mul_le_self (val 1000000000 gD) (val 1000000000 vs)
   have t5:val 1000000000 gD / val 1000000000 vs*v1*1000000000^(n+1)<(u2*1000000000+u1+1)*1000000000^(n+1):=by rw[Nat.mul_assoc];omega
   have:=Nat.lt_of_mul_lt_mul_right t5
   omega
  generalize hQ1:(u2*1000000000+u1) / v1=g0 at *
  generalize hQ2:(u2*1000000000+u1) % v1=l0 at *
  refine Pn (i:=i) G Ot (by omega) BX hu0 AD BH IS Gf (by rfl) (by rfl) (by rw[Nat.mul_comm g0];omega) Ou (by omega) (by omega) ?_
  intro Q6 g' hq K8 hgW r19 r12 r13 r14 r15 r16 r17
  have Ql:Q6 12=VI s:=r12.trans Gn
  have QP:Q6 13 = .ref 0 0 0 N N:=r13.trans AD
  have QF:Q6 14=gA vs:=r14.trans BH
  have Qc:Q6 15=VI ((n+2:Nat):Int):=r15.trans IS
  have ZO:Q6 16 = .ref 1 0 0 m m:=r16.trans ZH
  have abW:Q6 17=VI i:=r17.trans Gf
  simp only[Ql,QP,QF,Qc,ZO,abW,r19,VX,Nat.reduceEqDiff,Nat.reduceAdd]
  have nC:g'*val 1000000000 vs≤val 1000000000 gD+val 1000000000 vs:=by
   have:=Nat.mul_le_mul_right (val 1000000000 vs) K8
   rw[Nat.add_mul,Nat.one_mul] at this
   have:=Nat.div_mul_le_self (val 1000000000 gD) (val 1000000000 vs)
   omega
  obtain⟨low,agM⟩:∃low,low=gD.take (n+2):=⟨_,rfl⟩
  have hll:low.length=n+2:=by rw[agM,List.length_take];omega
  have WU:∀d∈low,d<1000000000:=fun d hd=>NH d (by rw[agM] at hd;exact List.mem_of_mem_take hd)
  have hsg:gD=low++[u2]:=by
   have h1:gD[n+2]? = some u2:=by rw[uS _ (by omega)];exact hu2
   have h2:=List.take_append_drop (n+2) gD
   have h3:=(List.getElem?_eq_some_iff.1 h1)
   rw[List.drop_eq_getElem_cons h3.1,h3.2,List.drop_of_length_le (by omega),←agM] at h2
   exact h2.symm
  have Oq:val 1000000000 gD=val 1000000000 low+1000000000^(n+2)*u2:=by rw[hsg,rA,hll]
  have qK:∀(lw:List Nat) (t:Nat),(us.take i).map tV++lw.map tV++VI (t:Int)::(us.drop (i+(n+2+1))).map tV=(us.take i++(lw++[t])++us.drop (i+(n+2+1))).map tV:=fun lw t=>by simp
  have Mj:aK (H2 us os) 0 0=some ((us.take i).map tV++low.map tV++VI (u2:Int)::(us.drop (i+(n+2+1))).map tV,1,true):=by
   rw[qK,←hsg,←RT]
   rfl
  refine fX rfl ((V5 (o:=i) (n:=n+2) Mj (Nat.zero_le _) (by simpa using zA) hll DS (by omega) BX WU EA hgW lu2).mono ?_)
  rintro r H' ⟨zW,c,rfl,BO,UP,hc,hr,hE⟩
  have auR:val 1000000000 low<1000000000^(n+2):=by have:=nB WU;rwa [hll] at this
  have aoQ:val 1000000000 zW<1000000000^(n+2):=by have:=nB UP;rwa [BO] at this
  have rows:∀(lw:List Nat) (t q:Nat),lw.length=n+2→(∀d∈lw,d<1000000000)→t<1000000000→q=val 1000000000 gD / val 1000000000 vs→val 1000000000 lw+1000000000^(n+2)*t=val 1000000000 gD % val 1000000000 vs →
    ((us.take i++(lw++[t])++us.drop (i+(n+2+1))).length=N∧(∀d∈us.take i++(lw++[t])++us.drop (i+(n+2+1)),d<1000000000)∧val 1000000000 ((us.take i++(lw++[t])++us.drop (i+(n+2+1))).drop i)<val 1000000000 vs∧val 1000000000 (us.take i++(lw++[t])++us.drop (i+(n+2+1)))+1000000000^i*val 1000000000 vs*val 1000000000 ((os.set i q).drop i)=A):=by
   intro lw t q hlw atT ht QZ ZC
   have acL:val 1000000000 (lw++[t])=val 1000000000 gD % val 1000000000 vs:=by rw[rA,hlw];exact ZC
   have aqG:(lw++[t]).length=n+3:=by rw[List.length_append,hlw];rfl
   have apZ:∀d∈lw++[t],d<1000000000:=fun d hd=>by
    rcases List.mem_append.1 hd with h | h
    ·exact atT d h
    ·rw[List.mem_singleton.1 h];exact ht
   generalize lw++[t]=pZ at *
   have Z8:=Nat.mod_lt (val 1000000000 gD) G4
   have Re:(us.take i++pZ++us.drop (i+(n+2+1))).drop i=pZ++us.drop (i+(n+2+1)):=by rw[List.append_assoc,List.drop_append,List.drop_of_length_le (by omega),zA];simp
   have R6:(us.take i++pZ++us.drop (i+(n+2+1))).take i=us.take i:=by rw[List.append_assoc,List.take_append_of_le_length (by omega),List.take_of_length_le (by omega)]
   have QS:val 1000000000 ((us.take i++pZ++us.drop (i+(n+2+1))).drop i)=val 1000000000 pZ:=by rw[Re,wI,Y6,Nat.mul_zero,Nat.add_zero]
   refine⟨by rw[List.length_append,List.length_append,zA,aqG,List.length_drop];omega,fun d hd => ?_,by rw[QS,acL];exact Z8,?_⟩
   ·rw[List.mem_append,List.mem_append] at hd
    rcases hd with(hd | hd) | hd
    ·exact Hu d (List.mem_of_mem_take hd)
    ·exact apZ d hd
    ·exact Hu d (List.mem_of_mem_drop hd)
   ·have h1:=Nat.div_add_mod (val 1000000000 gD) (val 1000000000 vs)
    rw[←QZ,←acL,Nat.mul_comm] at h1
    have h2:=oN (b:=1000000000) us i
    have h3:=oN (b:=1000000000) (us.take i++pZ++us.drop (i+(n+2+1))) i
    rw[R6,zA,QS] at h3
    rw[zA,WT] at h2
    rw[set_drop (by omega),rR,h3]
    rw[h2,Nat.pow_succ] at hv
    exact Js h1.symm hv
  have e3:∀(Ei:List Nat) (d:Nat),bC 1 (.ref 1 0 0 m m) (VI i) (H2 Ei os)=some (.ptr 1 0 i 0)∧cJ 0 1 (.ptr 1 0 i 0) (VI (d:Int)) (H2 Ei os)=some (H2 Ei (os.set i d)):=fun Ei d=>by
   refine⟨by rw[aQ alO (by omega),Nat.zero_add],?_⟩
   rw[show VI (d:Int)=tV d from rfl,cR (f:=tV) (e:=1) alO (by omega) (Nat.zero_le _) rfl rfl]
   rfl
  have wi:IntKind.i64.wrap ((i:Int)-1)=(i:Int)-1:=wrap64 (by omega) (by omega)
  have hdm:=Nat.div_add_mod (val 1000000000 gD) (val 1000000000 vs)
  have Z8:=Nat.mod_lt (val 1000000000 gD) G4
  generalize hPP:1000000000^(n+2)=P at *
  by_cases mD:(u2:Int)-(c:Int)<0
  ·
   rw[decide_eq_true mD] at hr
   subst hr
   have hgt:val 1000000000 gD<g'*val 1000000000 vs:=by
    have h1:P*(u2+1)≤P*c:=Nat.mul_le_mul_left _ (by omega)
    rw[Nat.mul_add,Nat.mul_one] at h1
    omega
   have QZ:g'=val 1000000000 gD / val 1000000000 vs+1:=by
    rcases Nat.lt_or_ge (val 1000000000 gD / val 1000000000 vs) g' with h | h
    ·omega
    ·have h1:g'*val 1000000000 vs≤val 1000000000 gD / val 1000000000 vs*val 1000000000 vs:=Nat.mul_le_mul_right _ h
     have:=Nat.div_mul_le_self (val 1000000000 gD) (val 1000000000 vs)
     omega
   have hg1:1≤g':=by rw[QZ];exact Nat.le_add_left 1 _
   have wg:IntKind.i64.wrap ((g':Int)-1)=((g'-1:Nat):Int):=wrapN _ (by omega) (by omega)
   simp only[Ql,QP,QF,Qc,ZO,abW,r19,wg,VX,Nat.reduceEqDiff,Nat.reduceAdd]
   have Om:aK ((H2 us os).set 0 (.row 0 ((us.take i).map tV++zW.map tV++VI ((u2:Int)-(c:Int))::(us.drop (i+(n+2+1))).map tV) 1 true)) 0 0=some ((us.take i).map tV++zW.map tV++VI ((u2:Int)-(c:Int))::(us.drop (i+(n+2+1))).map tV,1,true):=rfl
   refine fX rfl ((Wr (o:=i) (n:=n+2) Om (Nat.zero_le _) (by simpa using zA) BO DS (by omega) BX UP EA (by omega) (by omega)).mono ?_)
   rintro r H' ⟨Sh,c2,rfl,FU,hd2,ZJ,hE2⟩
   rw[hPP] at hE2
   have afV:val 1000000000 Sh<P:=by have:=nB hd2;rwa [FU,hPP] at this
   obtain⟨hy,hZ⟩:(u2:Int)-(c:Int)+(c2:Int)=0∧val 1000000000 Sh=val 1000000000 gD % val 1000000000 vs:=by
    refine abC (P:=P) ?_ afV (by omega)
    have i1:(P:Int)*((u2:Int)-(c:Int)+(c2:Int))=(P:Int)*u2-(P:Int)*c+(P:Int)*c2:=by rw[Int.mul_add,Int.mul_sub]
    have i2:((P*u2:Nat):Int)=(P:Int)*u2:=by simp
    have i3:((P*c:Nat):Int)=(P:Int)*c:=by simp
    have i4:((P*c2:Nat):Int)=(P:Int)*c2:=by simp
    rw[i1,←i2,←i3,←i4]
    have i5:g'*val 1000000000 vs=val 1000000000 vs*(val 1000000000 gD / val 1000000000 vs)+val 1000000000 vs:=by rw[QZ,Nat.add_mul,Nat.one_mul,Nat.mul_comm (val 1000000000 vs)]
    omega
   have GX:((H2 us os).set 0 (.row 0 ((us.take i).map tV++zW.map tV++VI ((u2:Int)-(c:Int))::(us.drop (i+(n+2+1))).map tV) 1 true)).set 0 (.row 0 ((us.take i).map tV++Sh.map tV++VI ((u2:Int)-(c:Int)+(c2:Int))::(us.drop (i+(n+2+1))).map tV) 1 true)=H2 (us.take i++(Sh++[0])++us.drop (i+(n+2+1))) os:=by
    rw[hy]
    rw[show (0:Int)=((0:Nat):Int) from rfl,qK]
    rfl
   rw[GX]
   obtain⟨x1,x2⟩:=e3 (us.take i++(Sh++[0])++us.drop (i+(n+2+1))) (g'-1)
   obtain⟨y1,y2,y3,y4⟩:=rows Sh 0 (g'-1) FU hd2 (by decide) (by rw[QZ,Nat.add_sub_cancel]) (by rw[Nat.mul_zero,Nat.add_zero];exact hZ)
   simp only[Ql,QP,QF,Qc,ZO,abW,x1,x2,wi,VX,Nat.reduceEqDiff,Nat.reduceAdd]
   refine⟨(i,us.take i++(Sh++[0])++us.drop (i+(n+2+1)),os.set i (g'-1)),by simp only;omega,by omega,rfl,y1,y2,by rw[List.length_set];exact gZ,kI jT (by omega),y3,y4,?_⟩
   try (repeat' apply And.intro)<;>first | rfl | trivial
  ·rw[decide_eq_false mD] at hr
   subst hr
   obtain⟨t',ht'⟩:∃t':Nat,(u2:Int)-(c:Int)=(t':Int):=⟨u2-c,by omega⟩
   have hP1:P*u2=P*c+P*t':=by rw[←Nat.mul_add];congr 1;omega
   have AF:g'*val 1000000000 vs≤val 1000000000 gD:=by omega
   have QZ:g'=val 1000000000 gD / val 1000000000 vs:=by
    have:=(Nat.le_div_iff_mul_le G4).2 AF
    omega
   have GX:(H2 us os).set 0 (.row 0 ((us.take i).map tV++zW.map tV++VI ((u2:Int)-(c:Int))::(us.drop (i+(n+2+1))).map tV) 1 true)=H2 (us.take i++(zW++[t'])++us.drop (i+(n+2+1))) os:=by
    rw[ht',qK]
    rfl
   rw[GX]
   obtain⟨x1,x2⟩:=e3 (us.take i++(zW++[t'])++us.drop (i+(n+2+1))) g'
   have ZC:val 1000000000 zW+P*t'=val 1000000000 gD % val 1000000000 vs:=by
    rw[←QZ,Nat.mul_comm] at hdm
    omega
   obtain⟨y1,y2,y3,y4⟩:=rows zW t' g' BO UP (by omega) QZ ZC
   simp only[Ql,QP,QF,Qc,ZO,abW,r19,x1,x2,wi,VX,Nat.reduceEqDiff,Nat.reduceAdd]
   refine⟨(i,us.take i++(zW++[t'])++us.drop (i+(n+2+1)),os.set i g'),by simp only;omega,by omega,rfl,y1,y2,by rw[List.length_set];exact gZ,kI jT (by omega),y3,y4,?_⟩
   try (repeat' apply And.intro)<;>first | rfl | trivial
 ·have RA:j=0:=by omega
  subst RA
  rw[Nat.pow_zero,Nat.one_mul,List.drop_zero] at hv
  rw[List.drop_zero] at aV
  simp only[gP,Gn,AD,BH,IS,ZH,Gf,hz,VX,Nat.reduceEqDiff,Nat.reduceAdd]
  exact hQ _ us os Gn AD ZH Ot Hu gZ jT hv aV
end Go.PM
namespace Go.PM
def bl (n:Nat):Nat:=(aC 2 n).length
theorem Lu (n:Nat):n<2^bl n:=fL (by decide) n
theorem Fe {n k:Nat} (h:n<2^k):bl n≤k:=kU (by decide) h
theorem oG {m n:Nat} (h:m≤n):bl m≤bl n:=dJ (by decide) h
theorem qQ (m n:Nat):bl (m*n)≤bl m+bl n:=by
 refine Fe ?_
 rw[Nat.pow_add]
 exact Nat.mul_lt_mul'' (Lu m) (Lu n)
theorem FR {n k:Nat} (h:bl n≤k):n<2^k:=Nat.lt_of_lt_of_le (Lu n) (Nat.pow_le_pow_right (by decide) h)
theorem Rg {m n k:Nat} (hm:bl m≤k) (hn:bl n≤k):bl (m+n)≤k+1:=by
 refine Fe ?_
 have h1:=FR hm
 have h2:=FR hn
 rw[Nat.pow_succ]
 omega
theorem SY:bl 0=0:=by simp[bl,bN]
theorem NK:bl 1=1:=by simp[bl,gW (b:=2) (by decide) (n:=1) (by decide),bN]
theorem afJ {n:Nat} (h:n≠0):1≤bl n:=by
 have:=oG (m:=1) (n:=n) (by omega)
 rwa [NK] at this
theorem acX (n:Nat):32*(aC 4294967296 n).length≤bl n+31:=by
 by_cases h:n=0
 ·subst h;rw[bN];simp
 ·have h1:=IP (b:=4294967296) (by decide) h
  have h2:=Lu n
  have e:(4294967296:Nat)=2^32:=by decide
  rw[e] at h1 ⊢
  rw[←Nat.pow_mul] at h1
  have h3:2^(32*((aC (2^32) n).length-1))<2^bl n:=by omega
  have h4:=(Nat.pow_lt_pow_iff_right (by decide)).1 h3
  omega
theorem acQ (n:Nat):29*(aC 1000000000 n).length≤bl n+28:=by
 by_cases h:n=0
 ·subst h;rw[bN];simp
 ·have h1:=IP (b:=1000000000) (by decide) h
  have h2:=Lu n
  have h5:(2^29)^((aC 1000000000 n).length-1)≤1000000000^((aC 1000000000 n).length-1):=Nat.pow_le_pow_left (by decide) _
  rw[←Nat.pow_mul] at h5
  have h3:2^(29*((aC 1000000000 n).length-1))<2^bl n:=by omega
  have h4:=(Nat.pow_lt_pow_iff_right (by decide)).1 h3
  omega
def dT (q:Rat):Nat:=max (bl q.num.natAbs) (bl q.den)
theorem Au {q:Rat}:bl q.num.natAbs≤dT q:=Nat.le_max_left _ _
theorem zY {q:Rat}:bl q.den≤dT q:=Nat.le_max_right _ _
theorem XQ {q:Rat} {k:Nat} (h1:bl q.num.natAbs≤k) (h2:bl q.den≤k):dT q≤k:=Nat.max_le.2 ⟨h1,h2⟩
theorem Jk {n:Int} {d k:Nat} (h1:bl n.natAbs≤k) (h2:bl d≤k) (hk:1≤k):dT (mkRat n d)≤k:=by
 refine XQ ?_ ?_
 ·rw[Rat.num_mkRat]
  split
  ·rw[Int.natAbs_zero,SY];omega
  ·exact Nat.le_trans (oG (Int.natAbs_ediv_le_natAbs _ _)) h1
 ·rw[Rat.den_mkRat]
  split
  ·rw[NK];exact hk
  ·exact Nat.le_trans (oG (Nat.div_le_self _ _)) h2
theorem MU (a b:Rat):dT (a+b)≤dT a+dT b+1:=by
 rw[Rat.add_def']
 have h1 := @Au a
 have h2 := @Au b
 have h3 := @zY a
 have h4 := @zY b
 have h5:=qQ a.num.natAbs b.den
 have h6:=qQ b.num.natAbs a.den
 have h7:=qQ a.den b.den
 refine Jk ?_ (by omega) (by omega)
 have h8:(a.num*b.den+b.num*a.den).natAbs≤a.num.natAbs*b.den+b.num.natAbs*a.den:=by
  refine Nat.le_trans (Int.natAbs_add_le _ _) ?_
  rw[Int.natAbs_mul,Int.natAbs_mul,Int.natAbs_natCast,Int.natAbs_natCast]
  exact Nat.le_refl _
 exact Nat.le_trans (oG h8) (Rg (by omega) (by omega))
theorem DW:dT 0=1:=by simp[dT,SY,NK]
theorem LU:dT 1=1:=by simp[dT,NK]
def oO (neg:Bool) (t:Nat):Int:=if neg then -(t:Int) else t
theorem xQ (neg:Bool) (t:Nat):(oO neg t).natAbs=t:=by cases neg<;>simp[oO]
theorem Tr {neg:Bool} {t:Nat}:oO neg t<0↔neg=true∧t≠0:=by cases neg<;>simp[oO]<;>omega
theorem OY (neg:Bool):oO neg 0=0:=by cases neg<;>rfl
theorem Zn (z:Int):oO (decide (z<0)) z.natAbs=z:=by
 by_cases h:z<0<;>simp[oO,h]<;>omega
theorem abH {neg:Bool} {t g:Nat}:(oO neg t) / (g:Int)=oO neg (t / g)∨¬g ∣ t:=by
 by_cases h:g ∣ t
 ·left
  obtain⟨k,rfl⟩:=h
  by_cases hg:g=0
  ·subst hg;simp[OY]
  ·rw[Nat.mul_div_cancel_left _ (by omega)]
   cases neg
   ·simp only[oO]
    simp only[Bool.false_eq_true,if_false]
    rw[Int.natCast_mul,Int.mul_ediv_cancel_left _ (by omega)]
   ·simp only[oO,if_true]
    rw[Int.natCast_mul,←Int.mul_neg,Int.mul_ediv_cancel_left _ (by omega)]
 ·exact .inr h
theorem Jl {neg:Bool} {t b:Nat} (hb:b≠0):(mkRat (oO neg t) b).num=oO neg (t / Nat.gcd t b):=by
 rw[Rat.num_mkRat,if_neg hb,xQ,Nat.gcd_comm]
 rcases abH (neg:=neg) (t:=t) (g:=Nat.gcd t b) with h | h
 ·exact h
 ·exact absurd (Nat.gcd_dvd_left _ _) h
theorem Ro {neg:Bool} {t b:Nat} (hb:b≠0):(mkRat (oO neg t) b).den=b / Nat.gcd t b:=by
 rw[Rat.den_mkRat,if_neg hb,xQ,Nat.gcd_comm]
theorem IW (q:Rat):mkRat (oO (decide (q.num<0)) q.num.natAbs) q.den=q:=by rw[Zn,Rat.mkRat_self]
end Go.PM
namespace Go.PM
theorem abE (neg:Bool) (t d:Nat):oO neg (t*d)=oO neg t*(d:Int):=by cases neg<;>simp[oO,Int.neg_mul]
theorem CR (q:Rat) {d:Nat} (hd:d≠0):mkRat (oO (decide (q.num<0)) (q.num.natAbs*d)) (q.den*d)=q:=by
 rw[abE,Rat.mkRat_mul_right hd,IW]
theorem BP (X Y:Int) {B:Nat} (hB:B≠0):mkRat X B+mkRat Y B=mkRat (X+Y) B:=by
 rw[Rat.mkRat_add_mkRat _ _ hB hB,←Int.add_mul,Rat.mkRat_mul_right hB]
theorem NU (n:Bool) (x y:Nat):oO n x+oO n y=oO n (x+y):=by cases n<;>simp[oO]<;>omega
theorem Ru {m n:Bool} (h:m≠n) {x y:Nat} (hx:y≤x):oO m x+oO n y=oO m (x-y):=by
 cases m<;>cases n<;>simp_all [oO]<;>omega
theorem Rs {m n:Bool} (h:m≠n) {x y:Nat} (hx:x≤y):oO m x+oO n y=oO n (y-x):=by
 cases m<;>cases n<;>simp_all [oO]<;>omega
def kR (q:Rat):Int:=if q.num=0 then 0 else if q.num<0 then -1 else 1
def KV (a b:Rat):Int:=if kR a=kR b then (if a.num<0 then -eH (a.num.natAbs*b.den) (b.num.natAbs*a.den) else eH (a.num.natAbs*b.den) (b.num.natAbs*a.den)) else kR a-kR b
theorem vA {m n:Nat}:eH m n<0↔m<n:=by
 unfold eH
 split
 ·omega
 ·split<;>omega
theorem acC {m n:Nat}:0<eH m n↔n<m:=by
 unfold eH
 split
 ·omega
 ·split<;>omega
theorem vF {m n:Nat}:eH m n=0↔m=n:=by
 unfold eH
 split
 ·omega
 ·split<;>omega
theorem oE {q:Rat} (h:q.num<0):kR q = -1:=by unfold kR;rw[if_neg (by omega),if_pos h]
theorem lC {q:Rat} (h:q.num=0):kR q=0:=by unfold kR;rw[if_pos h]
theorem nQ {q:Rat} (h:0<q.num):kR q=1:=by unfold kR;rw[if_neg (by omega),if_neg (by omega)]
theorem Um {a b:Rat}:KV a b<0↔a<b:=by
 rw[Rat.lt_iff]
 have hA:(0:Int)<a.den:=by have:=a.den_nz;omega
 have hB:(0:Int)<b.den:=by have:=b.den_nz;omega
 have eA:((a.num.natAbs*b.den:Nat):Int)=(a.num.natAbs:Int)*b.den:=by simp
 have eB:((b.num.natAbs*a.den:Nat):Int)=(b.num.natAbs:Int)*a.den:=by simp
 unfold KV
 rcases Int.lt_trichotomy a.num 0 with h1 | h1 | h1<;>rcases Int.lt_trichotomy b.num 0 with h2 | h2 | h2
 ·rw[oE h1,oE h2,if_pos rfl,if_pos h1]
  have f1:(a.num.natAbs:Int) = -a.num:=by omega
  have f2:(b.num.natAbs:Int) = -b.num:=by omega
  rw[f1,Int.neg_mul] at eA
  rw[f2,Int.neg_mul] at eB
  have := @acC (a.num.natAbs*b.den) (b.num.natAbs*a.den)
  omega
 ·rw[oE h1,lC h2,if_neg (by decide),h2,Int.zero_mul]
  have:=Int.mul_neg_of_neg_of_pos h1 hB
  omega
 ·rw[oE h1,nQ h2,if_neg (by decide)]
  have:=Int.mul_neg_of_neg_of_pos h1 hB
  have:=Int.mul_pos h2 hA
  omega
 ·rw[lC h1,oE h2,if_neg (by decide),h1,Int.zero_mul]
  have:=Int.mul_neg_of_neg_of_pos h2 hA
  omega
 ·rw[lC h1,lC h2,if_pos rfl,h1,h2];simp[eH]
 ·rw[lC h1,nQ h2,if_neg (by decide),h1,Int.zero_mul]
  have:=Int.mul_pos h2 hA
  omega
 ·rw[nQ h1,oE h2,if_neg (by decide)]
  have:=Int.mul_neg_of_neg_of_pos h2 hA
  have:=Int.mul_pos h1 hB
  omega
 ·rw[nQ h1,lC h2,if_neg (by decide),h2,Int.zero_mul]
  have:=Int.mul_pos h1 hB
  omega
 ·rw[nQ h1,nQ h2,if_pos rfl,if_neg (by omega)]
  have f1:(a.num.natAbs:Int)=a.num:=by omega
  have f2:(b.num.natAbs:Int)=b.num:=by omega
  rw[f1] at eA
  rw[f2] at eB
  have := @vA (a.num.natAbs*b.den) (b.num.natAbs*a.den)
  omega
theorem Xy (m n:Nat):eH n m = -eH m n:=by
 rcases Nat.lt_trichotomy m n with h | h | h
 ·rw[eH,eH,if_neg (by omega),if_neg (by omega),if_pos h];rfl
 ·subst h;rw[eH,if_neg (by omega),if_pos rfl];rfl
 ·rw[eH,eH,if_pos h,if_neg (by omega),if_neg (by omega)]
theorem OL (a b:Rat):KV b a = -KV a b:=by
 unfold KV
 by_cases h:kR a=kR b
 ·have h2:b.num<0↔a.num<0:=by
   rcases Int.lt_trichotomy a.num 0 with h1 | h1 | h1<;>rcases Int.lt_trichotomy b.num 0 with h2 | h2 | h2
   ·simp[h1,h2]
   ·rw[oE h1,lC h2] at h;omega
   ·rw[oE h1,nQ h2] at h;omega
   ·rw[lC h1,oE h2] at h;omega
   ·omega
   ·rw[lC h1,nQ h2] at h;omega
   ·rw[nQ h1,oE h2] at h;omega
   ·rw[nQ h1,lC h2] at h;omega
   ·omega
  rw[if_pos h,if_pos h.symm,Xy]
  by_cases h3:a.num<0
  ·rw[if_pos h3,if_pos (h2.2 h3)]
  ·rw[if_neg h3,if_neg (mt h2.1 h3)]
 ·rw[if_neg h,if_neg (fun h'=>h h'.symm)];omega
theorem abX {a b:Rat}:0<KV a b↔b<a:=by
 rw[←Um,OL a b];omega
theorem Mg {a b:Rat}:KV a b=0↔a=b:=by
 constructor
 ·intro h
  refine Rat.le_antisymm ?_ ?_
  ·rw[←Rat.not_lt,←abX];omega
  ·rw[←Rat.not_lt,←Um];omega
 ·rintro rfl
  have:=OL a a
  omega
theorem KE {q:Rat}:kR q=0↔q=0:=by
 rw[←Rat.num_eq_zero]
 rcases Int.lt_trichotomy q.num 0 with h | h | h
 ·rw[oE h];omega
 ·rw[lC h];omega
 ·rw[nQ h];omega
end Go.PM
namespace Go.PM
theorem M0 {ds:List Nat} {H:aA}:dD 1 (gA ds) H=some (ds.map tV):=by
 have:((ds.map tV).all fun x=>(aB x).length == 1&&(aB x).all bQ)=true:=by
  rw[List.all_eq_true]
  intro x hx
  obtain⟨d,_,rfl⟩:=List.mem_map.1 hx
  rfl
 simp only[dD,gA,aZ,this,if_true]
theorem CZ (n:Nat) {H:aA}:dD 1 (bL n) H=some ((aC 1000000000 n).map tV):=M0
theorem G6 {a n:Nat} (hn:(aC 1000000000 a).length=n+1):∃d,(aC 1000000000 a)[n]? = some d∧d≠0∧d<1000000000:=by
 obtain⟨d,hd⟩:∃d,(aC 1000000000 a)[n]? = some d:=⟨_,List.getElem?_eq_getElem (by omega)⟩
 refine⟨d,hd,fun h0 => ?_,eI (by decide) a d (List.mem_of_getElem? hd)⟩
 have:=Mi (b:=1000000000) (by decide) a
 rw[List.getLast?_eq_getElem?,hn,Nat.add_sub_cancel,hd,h0] at this
 exact this rfl
theorem Vu {a d:Nat} (h:aC 1000000000 a=[d]):a=d∧0<d∧d<1000000000:=by
 have h1:=bP (b:=1000000000) (by decide) a
 rw[h,val_one] at h1
 obtain⟨e,h2,h3,h4⟩:=G6 (a:=a) (n:=0) (by rw[h];rfl)
 rw[h] at h2
 cases h2
 exact⟨h1.symm,by omega,h4⟩
theorem ahQ {a:Nat} (h:(aC 1000000000 a).length≤2):a<1000000000000000000:=by
 have h1:=fL (b:=1000000000) (by decide) a
 have h2:1000000000^(aC 1000000000 a).length≤1000000000^2:=Nat.pow_le_pow_right (by decide) h
 omega
theorem Yo {H:aA} {u v:VV} (hu:aO u=true) (hv:aO v=true):fz depth H (.dY [u,v])=some (.dY [u,v]):=aI (by simp only[aO,aL,hu,hv,Bool.and_self])
theorem alY {X N:Nat} (h:(aC 1000000000 X).length≤N):MN 0 1 (.ref 0 0 0 N N) (bL X) [.row 0 ((List.replicate N 0).map tV) 1 true]=some (VI ((aC 1000000000 X).length:Int),[.row 0 ((aC 1000000000 X++List.replicate (N-(aC 1000000000 X).length) 0).map tV) 1 true]):=by
 have e:((aC 1000000000 X).map tV).take N=(aC 1000000000 X).map tV:=List.take_of_length_le (by simpa using h)
 simp only[MN,bL,M0,bG,e,List.length_map,List.length_replicate,Nat.zero_add]
 rw[if_pos ⟨trivial,Nat.le_refl _,h⟩]
 simp only[cK,List.set_cons_zero,List.take_zero,List.nil_append,Nat.zero_add,List.length_map,List.map_append,List.map_replicate,List.drop_replicate]
theorem sU (a b:Nat) (hb:b≠0) (ha:(aC 1000000000 a).length<17592186044416) (tG:(aC 1000000000 b).length<17592186044416):TC 214 [bL a,bL b] (.dY [bL (a / b),bL (a % b)]):=by
 refine TC.walk ⟨true,false⟩ Gh rfl (Nat.le_of_ble_eq_true rfl) (by simp[aL,bO]) (by simp[gH,qI,lR]) ?_
 have s1:=BC a (by omega)
 have s2:=BC b (by omega)
 have fin:∀ {H:aA},fz depth H (.dY [bL (a / b),bL (a % b)])=some (.dY [bL (a / b),bL (a % b)]):=Yo (bO _) (bO _)
 by_cases Xz:(aC 1000000000 a).length≤2∧(aC 1000000000 b).length≤2
 ·rw[if_pos Xz.1] at s1
  rw[if_pos Xz.2] at s2
  have la:=ahQ Xz.1
  have q1:=IU a b (by omega) (by omega)
  have q2:=I7 a b (by omega)
  have hdl:a / b≤a:=Nat.div_le_self _ _
  have hml:a % b≤a:=Nat.mod_le _ _
  have n1:TC 161 [VI ((a / b:Nat):Int)] (bL (a / b)):=pB ((a / b:Nat):Int) (Int.ofNat_le.2 (show a / b≤9223372036854775807 from Nat.le_trans hdl (by omega)))
  have n2:TC 161 [VI ((a % b:Nat):Int)] (bL (a % b)):=pB ((a % b:Nat):Int) (Int.ofNat_le.2 (show a % b≤9223372036854775807 from Nat.le_trans hml (by omega)))
  simp only[eG,cV,s1,s2,q1,q2,n1,n2,VX,Nat.reduceEqDiff,Nat.reduceAdd]
  exact fin
 have c1:=tB a b (by omega) (by omega)
 obtain⟨x1,t1,KZ⟩:∃(x:Int) (t:Bool),(if (aC 1000000000 a).length≤2 then VV.dY [VI a,VB true] else .dY [VI 0,VB false]) = .dY [VI x,VB t]:=by split<;>exact⟨_,_,rfl⟩
 have hs2:∃(x:Int) (t:Bool),(if (aC 1000000000 b).length≤2 then VV.dY [VI b,VB true] else .dY [VI 0,VB false]) = .dY [VI x,VB t]∧(t1=true→t=false):=by
  by_cases h:(aC 1000000000 b).length≤2
  ·rw[if_pos h]
   refine⟨_,_,rfl,fun ht => ?_⟩
   rw[if_neg (fun h'=>Xz ⟨h',h⟩)] at KZ
   injection KZ with KZ
   injection KZ with _ KZ
   injection KZ with KZ _
   injection KZ with KZ
   injection KZ with KZ
   subst ht
   cases KZ
  ·rw[if_neg h]
   exact⟨_,_,rfl,fun _=>rfl⟩
 obtain⟨x2,t2,hs2,ht⟩:=hs2
 rw[KZ] at s1
 rw[hs2] at s2
 by_cases Gz:eH a b<0
 ·have aV:a<b:=vA.1 Gz
  have e0:∀lr,mV lr [.int .i64 0] 0 [] []=some (.ref 0 0 0 0 0,[.row 0 [] 1 true]):=fun lr=>jJ (H:=[]) rfl
  have e1:∀lr,mV lr [.int .i64 0] 0 [] [.row 0 [] 1 true]=some (.ref 1 0 0 0 0,[.row 0 [] 1 true,.row 0 [] 1 true]):=fun lr=>jJ (H:=[.row 0 [] 1 true]) rfl
  rw[Nat.div_eq_of_lt aV,Nat.mod_eq_of_lt aV]
  have hz:fz (6+1) [.row 0 [] 1 true,.row 0 [] 1 true] (.ref 0 0 0 0 0)=some (bL 0):=by rw[GF];rfl
  by_cases ha0:a=0
  ·subst ha0
   have ap:eJ 0 1 8 (.ref 1 0 0 0 0) ((aC 1000000000 0).map tV) [.row 0 [] 1 true,.row 0 [] 1 true]=some (.ref 1 0 0 0 0,[.row 0 [] 1 true,.row 0 [] 1 true]):=by
    rw[bN];rfl
   have Gr:fz (6+1) [.row 0 [] 1 true,.row 0 [] 1 true] (.ref 1 0 0 0 0)=some (bL 0):=by rw[GF];rfl
   cases t1 with
   |
    false =>
    simp only[eG,cV,s1,s2,c1,Gz,e0,e1,ap,CZ,VX,Nat.reduceEqDiff,Nat.reduceAdd]
    exact bF (d:=6) hz Gr
   |
    true =>
    rw[ht rfl] at s2
    simp only[eG,cV,s1,s2,c1,Gz,e0,e1,ap,CZ,VX,Nat.reduceEqDiff,Nat.reduceAdd]
    exact bF (d:=6) hz Gr
  ·have hln:(aC 1000000000 a).length≠0:=fun h=>ha0 ((kK (b:=1000000000) (by decide)).1 (List.length_eq_zero_iff.1 h))
   have ap:eJ 0 1 8 (.ref 1 0 0 0 0) ((aC 1000000000 a).map tV) [.row 0 [] 1 true,.row 0 [] 1 true]=some (.ref 1 1 0 (aC 1000000000 a).length (aC 1000000000 a).length,[.row 0 [] 1 true,.row 1 ((aC 1000000000 a).map tV) 1 true]):=by
    have hr:aK [.row 0 [] 1 true,.row 0 [] 1 true] 1 0=some ([],1,true):=rfl
    simp only[eJ,hr,List.length_map,Nat.zero_add,List.length_nil,Nat.add_zero]
    rw[if_pos ⟨by decide,by decide⟩,if_pos ⟨trivial,Nat.zero_le _,Nat.le_refl _⟩,if_neg (by omega),if_pos (by omega)]
    simp
   have Dm:fz (6+1) [.row 0 [] 1 true,.row 1 ((aC 1000000000 a).map tV) 1 true] (.ref 0 0 0 0 0)=some (bL 0):=by rw[GF];rfl
   have Gr:fz (6+1) [.row 0 [] 1 true,.row 1 ((aC 1000000000 a).map tV) 1 true] (.ref 1 1 0 (aC 1000000000 a).length (aC 1000000000 a).length)=some (bL a):=by
    have:aO (.ref 1 1 0 (aC 1000000000 a).length (aC 1000000000 a).length)=false:=rfl
    have hr:aK [.row 0 [] 1 true,.row 1 ((aC 1000000000 a).map tV) 1 true] 1 1=some ((aC 1000000000 a).map tV,1,true):=rfl
    unfold fz
    simp only[this,hr,Bool.false_eq_true,if_false]
    rw[if_pos ⟨by simp,Nat.le_refl _⟩,List.drop_zero,List.take_of_length_le (by simp),mapM_pure (n:=5) (cZ fun _=>rfl)]
    rfl
   cases t1 with
   |
    false =>
    simp only[eG,cV,s1,s2,c1,Gz,e0,e1,ap,CZ,VX,Nat.reduceEqDiff,Nat.reduceAdd]
    exact bF (d:=6) Dm Gr
   |
    true =>
    rw[ht rfl] at s2
    simp only[eG,cV,s1,s2,c1,Gz,e0,e1,ap,CZ,VX,Nat.reduceEqDiff,Nat.reduceAdd]
    exact bF (d:=6) Dm Gr
 have AF:b≤a:=by have := @vA a b;omega
 have hbn:(aC 1000000000 b).length≠0:=fun h=>hb ((kK (b:=1000000000) (by decide)).1 (List.length_eq_zero_iff.1 h))
 by_cases h1:(((aC 1000000000 b).length:Nat):Int)=1
 ·obtain⟨d,hd⟩:∃d,aC 1000000000 b=[d]:=List.length_eq_one_iff.1 (by omega)
  obtain⟨ZF,Cv,hdT⟩:=Vu hd
  have e1:bC 1 (bL b) (VI 0) []=some (.cO (tV d) 0):=by
   rw[bL,hd]
   exact aF (f:=tV) (t := .op) (H:=[]) (size:=1) (k := .i64) (xs:=[d]) (i:=0) rfl rfl
  have c2:=wQ a d Cv hdT (by omega)
  rw[←ZF] at c2
  have Rr:a % b≤b:=Nat.le_of_lt (Nat.mod_lt _ (by omega))
  have n2:TC 161 [VI ((a % b:Nat):Int)] (bL (a % b)):=pB ((a % b:Nat):Int) (Int.ofNat_le.2 (show a % b≤9223372036854775807 from Nat.le_trans Rr (by omega)))
  have e2:tV d=tV b:=by rw[ZF]
  rw[e2] at e1
  cases t1 with
  |
   false =>
   simp only[eG,cV,s1,s2,c1,Gz,cH,h1,e1,c2,n2,VX,Nat.reduceEqDiff,Nat.reduceAdd]
   exact fin
  |
   true =>
   rw[ht rfl] at s2
   simp only[eG,cV,s1,s2,c1,Gz,cH,h1,e1,c2,n2,VX,Nat.reduceEqDiff,Nat.reduceAdd]
   exact fin
 obtain⟨n,hn⟩:∃n,(aC 1000000000 b).length=n+2:=⟨(aC 1000000000 b).length-2,by omega⟩
 obtain⟨t,htd,ht0,htT⟩:=G6 (a:=b) (n:=n+1) hn
 obtain⟨s,hs⟩:∃s,s=1000000000 / (t+1):=⟨_,rfl⟩
 have Ph:1≤s:=by rw[hs];exact(Nat.le_div_iff_mul_le (by omega)).2 (by omega)
 have hsT:s<1000000000:=by rw[hs];exact Nat.div_lt_self (by decide) (by omega)
 have Ay:(t+1)*s≤1000000000:=by rw[hs];exact Nat.mul_div_le _ _
 have hla:=dJ (b:=1000000000) (by decide) AF
 have w0:IntKind.i64.wrap (((n+2:Nat):Int)-1)=((n+1:Nat):Int):=wrapN _ (by omega) (by omega)
 have w1:IntKind.i64.wrap ((t:Int)+1)=((t+1:Nat):Int):=wrapN _ (by omega) (by omega)
 have q0:cU .quo (.int .i64 1000000000) (.int .i64 ((t+1:Nat):Int))=some (.int .i64 (s:Int)):=by rw[hs];exact IU 1000000000 (t+1) (by decide) (by omega)
 have et:∀H,bC 1 (bL b) (VI ((n+1:Nat):Int)) H=some (.cO (tV t) 0):=fun H=>aF (f:=tV) (t := .op) (size:=1) (k := .i64) htd rfl
 have UX:¬(((n+2:Nat):Int)=1):=by omega
 obtain⟨N,hN⟩:∃N,N=(aC 1000000000 a).length+1:=⟨_,rfl⟩
 have wN:IntKind.i64.wrap (((aC 1000000000 a).length:Int)+1)=(N:Int):=wrapN _ (by omega) (by omega)
 have mkN:=NW N (by omega)
 have c3:=wY a s Ph hsT ha
 have c4:=wY b s Ph hsT tG
 have ahA:b*s<1000000000^(n+2):=by
  have h2:=(xT (n:=n+1) (eI (b:=1000000000) (by decide) b) hn htd).2
  rw[bP (by decide)] at h2
  have h3:b*s<(t+1)*1000000000^(n+1)*s:=Nat.mul_lt_mul_of_pos_right h2 Ph
  have h4:(t+1)*1000000000^(n+1)*s=(t+1)*s*1000000000^(n+1):=by grind
  have h9:(t+1)*s*1000000000^(n+1)≤1000000000*1000000000^(n+1):=Nat.mul_le_mul_right _ Ay
  have h10:1000000000*1000000000^(n+1)=1000000000^(n+2):=by rw[Nat.pow_succ 1000000000 (n+1)];exact Nat.mul_comm _ _
  rw[h4] at h3
  rw[h10] at h9
  exact Nat.lt_of_lt_of_le h3 h9
 have hVl:(aC 1000000000 (b*s)).length=n+2:=by
  have h2:=kU (b:=1000000000) (by decide) ahA
  have h3:b≤b*s:=Nat.le_mul_of_pos_right b Ph
  have h4:=dJ (b:=1000000000) (by decide) h3
  omega
 have hAl:(aC 1000000000 (a*s)).length≤N:=by
  have h2:=NT (b:=1000000000) (by decide) a s
  have h3:(aC 1000000000 s).length≤1:=kU (by decide) (by rw[Nat.pow_one];exact hsT)
  omega
 have cp:=alY hAl
 obtain⟨m,hm⟩:∃m,m+(n+2)=N:=⟨N-(n+2),by omega⟩
 have wm:IntKind.i64.wrap ((N:Int)-((n+2:Nat):Int))=(m:Int):=wrapN _ (by omega) (by omega)
 have wm1:IntKind.i64.wrap ((m:Int)-1)=(m:Int)-1:=wrap64 (by omega) (by omega)
 obtain⟨Dk,abG⟩:∃Dk,Dk=aC 1000000000 (a*s)++List.replicate (N-(aC 1000000000 (a*s)).length) 0:=⟨_,rfl⟩
 rw[←abG] at cp
 have mkm:AA [.int .i64 0] 8 (VI (m:Int)) (VI (m:Int)) [.row 0 (Dk.map tV) 1 true]=some (.ref 1 0 0 m m,[.row 0 (Dk.map tV) 1 true]++[.row 0 ((List.replicate m 0).map tV) 1 true]):=sH (f:=tV) (x:=0) (H:=[.row 0 (Dk.map tV) 1 true]) rfl (by omega) (by omega)
 have lN:∀K,aK K 0 0=some (Dk.map tV,1,true)→nS (.ref 0 0 0 N N) K=some (VI (N:Int)):=fun K h=>cT h
 have l1:=lN [.row 0 (Dk.map tV) 1 true] rfl
 have l2:=lN (H2 Dk (List.replicate m 0)) rfl
 have ahP:Dk.length=N:=by rw[abG,List.length_append,List.length_replicate];omega
 have akJ:∀d∈Dk,d<1000000000:=fun d hd=>by
  rw[abG] at hd
  rcases List.mem_append.1 hd with h | h
  ·exact eI (by decide) _ d h
  ·rw[List.eq_of_mem_replicate h];decide
 have agS:val 1000000000 Dk=a*s:=by rw[abG,wI,pU,Nat.mul_zero,Nat.add_zero,bP (by decide)]
 generalize Oq:aC 1000000000 (b*s)=vs at *
 have EA:∀d∈vs,d<1000000000:=by rw[←Oq];exact eI (by decide) _
 have KW:val 1000000000 vs=b*s:=by rw[←Oq];exact bP (by decide) _
 have lV:∀H,nS (bL (b*s)) H=some (VI ((n+2:Nat):Int)):=fun H=>by rw[cH,Oq,hVl]
 obtain⟨v1,f1⟩:∃v1,vs[n+1]? = some v1:=⟨_,List.getElem?_eq_getElem (by omega)⟩
 obtain⟨v0,f0⟩:∃v0,vs[n]? = some v0:=⟨_,List.getElem?_eq_getElem (by omega)⟩
 have hv1:1≤v1:=by
  obtain⟨d,hd,Cv,_⟩:=G6 (a:=b*s) (n:=n+1) (by rw[Oq];exact hVl)
  rw[Oq,f1] at hd
  cases hd
  omega
 have By:val 1000000000 (Dk.drop m)<val 1000000000 vs:=by
  have h2:=oN (b:=1000000000) Dk m
  rw[List.length_take,ahP,Nat.min_eq_left (by omega),agS] at h2
  have h3:a<b*1000000000^m:=by
   have y1:=fL (b:=1000000000) (by decide) a
   have y2:=IP (b:=1000000000) (by decide) hb
   rw[hn] at y2
   have y3:1000000000^(n+2-1)*1000000000^m≤b*1000000000^m:=Nat.mul_le_mul_right _ y2
   rw[←Nat.pow_add,show n+2-1+m=(aC 1000000000 a).length by omega] at y3
   exact Nat.lt_of_lt_of_le y1 y3
  have h4:a*s<b*1000000000^m*s:=Nat.mul_lt_mul_of_pos_right h3 Ph
  have h5:b*1000000000^m*s=1000000000^m*(b*s):=by grind
  rw[KW]
  have h6:1000000000^m*val 1000000000 (Dk.drop m)<1000000000^m*(b*s):=by
   rw[←h5]
   exact Nat.lt_of_le_of_lt (by rw[h2];exact Nat.le_add_left _ _) h4
  exact Nat.lt_of_mul_lt_mul_left h6
 have body:VW ⟨true,false⟩ 0 (.loop gP)=VW ⟨true,false⟩ 0 (.loop gP):=rfl
 have tail:∀(us os:List Nat),us.length=N→(∀d∈us,d<1000000000)→os.length=m→(∀d∈os,d<1000000000)→val 1000000000 us+val 1000000000 vs*val 1000000000 os=a*s→val 1000000000 us<val 1000000000 vs →
   (∀lo K,cB 211 [.ref 0 0 0 N N] lo (H2 us os) K=K (bL (a % b*s)) (cG (H2 us os) [0])) ∧
   (∀lo K,cB 211 [.ref 1 0 0 m m] lo (cG (H2 us os) [0]) K=K (bL (a / b)) (cG (cG (H2 us os) [0]) [1]))∧TC 237 [bL (a % b*s),VI (s:Int)] (.dY [bL (a % b),VI ((a % b*s % s:Nat):Int)]):=by
  intro us os Ot Hu gZ jT hv aV
  rw[KW] at hv aV
  have hq:val 1000000000 os=a / b:=by
   rw[←Nat.mul_div_mul_right a b Ph,←hv,Nat.add_mul_div_left _ _ (Nat.lt_of_le_of_lt (Nat.zero_le _) aV),Nat.div_eq_of_lt aV,Nat.zero_add]
  have hr:val 1000000000 us=a % b*s:=by
   rw[←Nat.mul_mod_mul_right,←hv,Nat.add_mul_mod_self_left,Nat.mod_eq_of_lt aV]
  refine⟨fun lo K => ?_,fun lo K => ?_,?_⟩
  ·have h:=rL us Hu (by omega)
   rw[hr] at h
   exact TC.aaA (f:=tV) h Se Ot.symm (Nat.le_refl _) D1 (fun _=>rfl) rfl rfl lo K
  ·have h:=rL os jT (by omega)
   rw[hq] at h
   have qK:aK (cG (H2 us os) [0]) 1 0=some (os.map tV,1,true):=rfl
   exact TC.aaA (f:=tV) h qK gZ.symm (Nat.le_refl _) D1 (fun _=>rfl) rfl rfl lo K
  ·have h:=wQ (a % b*s) s Ph hsT (by
    have h2:=dJ (b:=1000000000) (by decide) (Nat.le_trans (Nat.le_of_lt aV) (show b*s≤b*s from Nat.le_refl _))
    rw[hr,Oq] at h2
    omega)
   rwa [Nat.mul_div_cancel _ Ph] at h
 clear body
 have nV:bL (b*s)=gA vs:=by rw[bL,Oq]
 cases t1 with
 |
  false =>
  simp only[eG,cV,s1,s2,c1,Gz,cH,hn,UX,w0,w1,q0,et,wN,mkN,c3,c4,cp,lV,l1,l2,wm,wm1,mkm,List.cons_append,List.nil_append,VX,Nat.reduceEqDiff,Nat.reduceAdd]
  refine MS (Dk:=Dk) (Wx:=List.replicate m 0) (vs:=vs) (N:=N) (m:=m) (n:=n) (A:=a*s) (s:=s) ahP hm (by omega) akJ hVl EA f1 f0 hv1 agS By (by simp) (yR (by decide) _) (by rfl) (by rfl) (by simp only[VX,Nat.reduceEqDiff,Nat.reduceAdd];exact nV) (by rfl) (by rfl) (by rfl) ?_
  intro vI us os r12 r13 r16 Ot Hu gZ jT hv aV
  obtain⟨x1,x2,x3⟩:=tail us os Ot Hu gZ jT hv aV
  simp only[r12,r13,r16,x1,x2,x3,VX,Nat.reduceEqDiff,Nat.reduceAdd]
  exact fin
 |
  true =>
  rw[ht rfl] at s2
  simp only[eG,cV,s1,s2,c1,Gz,cH,hn,UX,w0,w1,q0,et,wN,mkN,c3,c4,cp,lV,l1,l2,wm,wm1,mkm,List.cons_append,List.nil_append,VX,Nat.reduceEqDiff,Nat.reduceAdd]
  refine MS (Dk:=Dk) (Wx:=List.replicate m 0) (vs:=vs) (N:=N) (m:=m) (n:=n) (A:=a*s) (s:=s) ahP hm (by omega) akJ hVl EA f1 f0 hv1 agS By (by simp) (yR (by decide) _) (by rfl) (by rfl) (by simp only[VX,Nat.reduceEqDiff,Nat.reduceAdd];exact nV) (by rfl) (by rfl) (by rfl) ?_
  intro vI us os r12 r13 r16 Ot Hu gZ jT hv aV
  obtain⟨x1,x2,x3⟩:=tail us os Ot Hu gZ jT hv aV
  simp only[r12,r13,r16,x1,x2,x3,VX,Nat.reduceEqDiff,Nat.reduceAdd]
  exact fin
end Go.PM
namespace Go.PM
theorem dI (n:Nat) {H:aA}:nS (bE n) H=some (VI (aC 4294967296 n).length):=dH
theorem uP {n:Nat}:(0:Int)<((aC 4294967296 n).length:Int)↔n≠0:=by
 constructor
 ·intro h h0
  subst h0
  rw[bN] at h
  simp at h
 ·intro h
  have:=(kK (b:=4294967296) (by decide) (n:=n))
  have h2:aC 4294967296 n≠[]:=fun hx=>h (this.1 hx)
  have:=List.length_pos_iff.2 h2
  omega
theorem PF {n:Nat} (h:(aC 4294967296 n).length≤2):n<18446744073709551616:=by
 have h1:=fL (b:=4294967296) (by decide) n
 have h2:4294967296^(aC 4294967296 n).length≤4294967296^2:=Nat.pow_le_pow_right (by decide) h
 omega
theorem BW (a b:Nat) (ha:(aC 4294967296 a).length≤17592186044416) (hb:(aC 4294967296 b).length≤17592186044416):TC 171 [bE a,bE b] (bE (Nat.gcd a b)):=by
 refine TC.walk ⟨true,false⟩ Gm rfl (Nat.le_of_ble_eq_true rfl) (by simp[aL,bH]) (oY _) ?_
 simp only[BY,zX,VX,Nat.reduceEqDiff,Nat.reduceAdd]
 refine aN (fun(t:Nat×Nat) ρ H=>H=[]∧Nat.gcd t.1 t.2=Nat.gcd a b∧(aC 4294967296 t.1).length≤17592186044416∧(aC 4294967296 t.2).length≤17592186044416∧ρ 0=bE t.1∧ρ 1=bE t.2) (fun t=>t.2) (a,b) ⟨rfl,rfl,ha,hb,rfl,rfl⟩ ?_
 rintro⟨x,y⟩ ρ H ⟨rfl,hg,hx,hy,g0,g1⟩
 simp only at hg hx hy g0 g1
 have c1:=AB x hx
 have c2:=AB y hy
 by_cases hy0:y=0
 ·subst hy0
  have hl:¬(0:Int)<((aC 4294967296 0).length:Int):=by rw[uP];omega
  rw[Nat.gcd_zero_right] at hg
  simp only[gO,g0,g1,dI,hl,VX,Nat.reduceEqDiff,Nat.reduceAdd]
  rw[hg]
  exact aI (bH _)
 have hl:(0:Int)<((aC 4294967296 y).length:Int):=uP.2 hy0
 by_cases h1:(aC 4294967296 x).length≤2∧(aC 4294967296 y).length≤2
 ·rw[if_pos h1.1] at c1
  rw[if_pos h1.2] at c2
  simp only[gO,g0,g1,dI,hl,c1,c2,VX,Nat.reduceEqDiff,Nat.reduceAdd]
  refine aN (fun(t:Nat×Nat) ρ H=>H=[]∧Nat.gcd t.1 t.2=Nat.gcd a b∧t.1<18446744073709551616∧t.2<18446744073709551616∧ρ 5=VK .u64 t.1∧ρ 7=VK .u64 t.2) (fun t=>t.2) (x,y) ⟨rfl,hg,PF h1.1,PF h1.2,rfl,rfl⟩ ?_
  rintro⟨u,v⟩ Mm H ⟨rfl,hg2,hu,hv,k5,k7⟩
  simp only at hg2 hu hv k5 k7
  by_cases hv0:v=0
  ·subst hv0
   rw[Nat.gcd_zero_right] at hg2
   have hz:¬(0:Int)<((0:Nat):Int):=by omega
   have c3:=lG u hu
   simp only[qO,k5,k7,hz,c3,VX,Nat.reduceEqDiff,Nat.reduceAdd]
   rw[hg2]
   exact aI (bH _)
  ·have hz:(0:Int)<(v:Int):=by omega
   have r1:=NG u v (by omega)
   simp only[qO,k5,k7,hz,r1,VX,Nat.reduceEqDiff,Nat.reduceAdd]
   refine⟨(v,u % v),?_,?_,hv,?_,rfl,rfl⟩
   ·exact Nat.mod_lt _ (by omega)
   ·simp only
    rw[←hg2,Nat.gcd_comm u v,Nat.gcd_rec v u,Nat.gcd_comm]
   ·simp only
    have:=Nat.mod_lt u (show 0<v by omega)
    omega
 ·have c3:=vQ x y hy0 hx hy
  have next:∃s':Nat×Nat,s'.2<y∧Nat.gcd s'.1 s'.2=Nat.gcd a b∧(aC 4294967296 s'.1).length≤17592186044416∧(aC 4294967296 s'.2).length≤17592186044416∧bE y=bE s'.1∧bE (x % y)=bE s'.2:=by
   have hm:=Nat.mod_lt x (show 0<y by omega)
   refine⟨(y,x % y),hm,?_,hy,?_,rfl,rfl⟩
   ·simp only
    rw[←hg,Nat.gcd_comm x y,Nat.gcd_rec y x,Nat.gcd_comm]
   ·simp only
    have:=dJ (b:=4294967296) (by decide) (Nat.le_of_lt hm)
    omega
  by_cases h2:(aC 4294967296 x).length≤2
  ·have h3:¬(aC 4294967296 y).length≤2:=fun h=>h1 ⟨h2,h⟩
   rw[if_pos h2] at c1
   rw[if_neg h3] at c2
   simp only[gO,g0,g1,dI,hl,c1,c2,c3,VX,Nat.reduceEqDiff,Nat.reduceAdd]
   exact next
  ·rw[if_neg h2] at c1
   by_cases h3:(aC 4294967296 y).length≤2
   ·rw[if_pos h3] at c2
    simp only[gO,g0,g1,dI,hl,c1,c2,c3,VX,Nat.reduceEqDiff,Nat.reduceAdd]
    exact next
   ·rw[if_neg h3] at c2
    simp only[gO,g0,g1,dI,hl,c1,c2,c3,VX,Nat.reduceEqDiff,Nat.reduceAdd]
    exact next
end Go.PM