/- Texts of a claim, in one: part 12. -/
import Derived.KernelRfl
import Derived.Lib.LaidTab
import Derived.LaidLaws
import Derived.LaidMore
import Derived.MakeChecks
import Derived.Handed
import Derived.Test.YtodamlihdkalfaaGreatDoorKVk
set_option linter.unusedSimpArgs false
set_option linter.unusedVariables false
namespace Go.PM
def jP:aE:=(LS [LO 2 (.mv LF)] (.seq (LS [LM 11 0,LO 12 (.slen (LT 11)),LO 13 (.bin .gtr (LT 12) (LI 1000000))] (.cond (LT 13) (LS [LO 2 (.mv LG)] .ret) .skip)) (LS [LM 15 0,LO 16 (.call 20 [(LT 15)]),LM 14 16,LO 17 (LX 14 0),LO 18 (LX 14 1),LO 3 (.new [(.slice none 0 0),(.slice none 0 0),(.slice none 0 0)]),LN (.store 3 (LT 3) (LT 17)),LM 4 18] (LS [LM 20 0,LO 21 (.call 21 [(LT 20)]),LM 19 21,LO 22 (LX 19 0),LO 23 (LX 19 1),LO 5 (.new [(.slice none 0 0),(.slice none 0 0),(.slice none 0 0)]),LN (.store 3 (LT 5) (LT 22)),LM 6 23] (.seq (LS [LO 24 (LK 5),LO 25 (LK 3),LO 26 (.call 22 [(LT 24),(LT 25)]),LO 27 (.un .not (LT 26)),LM 28 27,LZ 28 29 (.mv (LT 6)),LZ 28 30 (.mv (LT 4)),LZ 28 31 (.eqb true (LT 29) (LT 30)),LO 32 (.pick (LT 28) LG (LT 31))] (.cond (LT 32) (LS [LO 2 (.mv LF)] .ret) .skip)) (LS [LO 7 (.mv (LI 101))] (LS [LO 33 (LK 5),LM 34 7,LO 35 (.call 23 [(LT 33),(LT 34)]),LM 7 35] (LS [LO 8 (.mv (LI 101))] (LS [LO 36 (LK 5),LM 37 8,LO 38 (.call 24 [(LT 36),(LT 37)]),LM 8 38] (.seq (LS [LM 39 8,LO 40 (.bin .lss (LT 39) (LI 0))] (.cond (LT 40) (LS [LO 2 (.mv LF)] .ret) .skip)) (.seq (LS [LM 41 8,LM 42 7,LO 43 (.bin .neq (LT 41) (LT 42))] (.cond (LT 43) (LS [LO 2 (.mv LF)] .ret) .skip)) (LS [LM 45 0,LO 46 (.call 21 [(LT 45)]),LM 44 46,LO 47 (LX 44 0),LO 48 (LX 44 1),LO 9 (.new [(.slice none 0 0),(.slice none 0 0),(.slice none 0 0)]),LN (.store 3 (LT 9) (LT 47)),LM 10 48] (.seq (LS [LO 49 (LK 9),LO 50 (LK 3),LO 51 (.call 22 [(LT 49),(LT 50)]),LO 52 (.un .not (LT 51)),LM 53 52,LZ 53 54 (.mv (LT 10)),LZ 53 55 (.mv (LT 4)),LZ 53 56 (.eqb true (LT 54) (LT 55)),LO 57 (.pick (LT 53) LG (LT 56))] (.cond (LT 57) (LS [LO 2 (.mv LF)] .ret) .skip)) (LS [LO 8 (.mv (LI 101))] (LS [LO 58 (LK 5),LM 59 8,LO 60 (.call 24 [(LT 58),(LT 59)]),LM 8 60] (.seq (LS [LM 61 8,LO 62 (.bin .lss (LT 61) (LI 0))] (.cond (LT 62) (LS [LO 2 (.mv LF)] .ret) .skip)) (.seq (LS [LM 63 8,LM 64 7,LO 65 (.bin .neq (LT 63) (LT 64))] (.cond (LT 65) (LS [LO 2 (.mv LF)] .ret) .skip)) (LS [LO 2 (.mv LG)] .ret))))))))))))))))))
def kQ:aS:=⟨66,[(.tmp 2)],jP⟩
theorem xK:iB 4=some kQ:=by kernel_rfl
end Go.PM
namespace Go.PM
structure tE (s:B0):Prop where
 b:s.b.length≤100
 g:s.g.length≤100
 r:∀x∈s.g,x.length≤100
 e:s.e.length≤100
theorem EH {β:Type}:∀ {xs:List (List β)} {n:Nat},(∀x∈xs,x.length≤n)→cT xs≤xs.length*n
 | [],n,_=>by simp[cT]
 |
  x::xs,n,h=>by
  have h1:=h x List.mem_cons_self
  have h2:=EH (xs:=xs) (n:=n) fun y hy=>h y (List.mem_cons_of_mem _ hy)
  have e:cT (x::xs)=x.length+cT xs:=by simp[cT]
  rw[e,List.length_cons,Nat.add_mul,Nat.one_mul]
  omega
theorem tE.n {s:B0} (h:tE s):Vg s≤10200:=by
 have h1:=EH h.r
 have h2:s.g.length*100≤100*100:=Nat.mul_le_mul_right _ h.g
 have h3:=h.b
 have h4:=h.e
 unfold Vg
 omega
theorem abH {lo:Nat} {s:B0} {H:aA} {v w:VV} {K:VV→aA→Prop} (hs:tE s) (hv:PM.fz depth H v=some (NQ s)) (hw:PM.fz depth H w=some (NQ s)):cZ 22 [v,w] lo H K=K (VB true) H:=by
 have h:=FA s s (by have:=hs.b;omega) (by have:=hs.g;omega) (fun x hx=>by have:=hs.r x hx;omega) (by have:=hs.e;omega)
 rw[decide_eq_true ⟨rfl,rfl,rfl⟩] at h
 exact TC.flat h rfl (Fp (uM _) (uM _)) (fz2 hv hw) rfl _ _
theorem Sw {lo:Nat} {s:B0} {H:aA} {v:VV} {K:VV→aA→Prop} (hs:tE s) (hv:PM.fz depth H v=some (NQ (svT 101 s))):cZ 24 [v,VI 101] lo H K=K (VI (101+Vg s)) H:=by
 have h:=Dv 101 s (by omega) (by have:=hs.g;omega) (by have:=hs.n;omega)
 exact TC.flat h rfl (Fp (uM _) rfl) (fz2 hv (aI rfl)) rfl _ _
def Ag3 (v:VV):Prop:=∃a b c,v = .agg [a,b,c]∧bA a=true∧bA b=true∧bA c=true
theorem DO.ag3 {s:B0} {lo hi:Nat} {H:aA} {v:VV} (h:DO s lo hi H v):Ag3 v:=by
 obtain⟨a,b,c,h1,h2,h3,h4,_⟩:=h.own (n:=0) (Nat.zero_le _)
 exact⟨a,b,c,h1,h2,h3,h4⟩
theorem JP.ag3 {s:B0} {lo hi:Nat} {H:aA} {v:VV} (h:JP s lo hi H v):Ag3 v:=by
 obtain⟨⟨a,b,c,h1,h2,h3,h4,_⟩,_⟩:=h
 exact⟨a,b,c,h1,h2,h3,h4⟩
theorem Re {lo:Nat} {H:aA} {v:VV} (h:Ag3 v) (eJ:lo≤H.length):bY lo 3 (.ptr H.length 0 0 0) v (H++[.row 0 [.agg [.tree [] .nil,.tree [] .nil,.tree [] .nil]] 3 true])=some (H++[.row 0 [v] 3 true]):=by
 obtain⟨a,b,c,rfl,h1,h2,h3⟩:=h
 rw[dC (e:=3) (g:=0) (j:=0) dY (by exact Nat.zero_lt_one) eJ rfl (by simp[aB,h1,h2,h3]),xZ]
 rfl
theorem Li {b:Nat} {H:aA} {v:VV} (h:Ag3 v) (hr:aF H b 0=some ([v],3,true)):cO true 3 (.ptr b 0 0 0) H=some v:=by
 obtain⟨a,b,c,rfl,_⟩:=h
 rw[cH,hr]
 rfl
theorem Rk {m:List (List Rat)} {y:List (List ByteArray)} {B:Nat} (h:uL m=some y) (hB:∀r∈m,r.length≤B):y.length=m.length∧∀x∈y,x.length≤B :=
 ⟨mB h,fun x hx=>by
  have key:∀ {m:List (List Rat)} {y:List (List ByteArray)},m.mapM nQ=some y→(∀r∈m,r.length≤B)→∀x∈y,x.length≤B:=by
   intro m
   induction m with
   | nil=>intro y h _ x hx;cases h;cases hx
   |
    cons r m ih =>
    intro y h hB x hx
    obtain⟨z,zs,h1,h2,rfl⟩:=iO h
    rcases List.mem_cons.1 hx with rfl | hx
    ·rw[B8 h1];exact hB r List.mem_cons_self
    ·exact ih h2 (fun r hr=>hB r (List.mem_cons_of_mem _ hr)) x hx
  exact key h hB x hx⟩
theorem Pb {b:List Rat} {g:List (List Rat)} {e:List Rat} (hb:b.length≤100) (hg:g.length≤100) (hr:∀r∈g,r.length≤100) (he:e.length≤100):tE ((gX b g e).getD nH):=by
 have h0:tE nH:=⟨by decide,by decide,(fun x hx=>by cases hx),by decide⟩
 unfold gX
 split
 ·rename_i x y z h1 h2 h3
  split
  ·obtain⟨k1,k2⟩:=Rk h2 hr
   exact⟨by rw[Option.getD_some,B8 h1];exact hb,by rw[Option.getD_some,k1];exact hg,k2,by rw[Option.getD_some,B8 h3];exact he⟩
  ·exact h0
 ·exact h0
theorem OL (rs:List ByteArray):tE ((kE rs).getD nH):=by
 have h0:tE nH:=⟨by decide,by decide,(fun x hx=>by cases hx),by decide⟩
 unfold kE
 split
 ·rename_i qs h
  split
  ·rename_i hl
   refine Pb (by rw[Ix,List.length_set,List.length_replicate];omega) (by rw[JJ,MJ];omega) (fun r hr => ?_) (by rw[Hs,List.length_set,List.length_replicate];omega)
   obtain⟨a,_,rfl⟩:=St hr
   rw[zQ];omega
  ·exact h0
 ·exact h0
theorem OD (x:ByteArray):tE ((kE [x]).getD nH):=OL [x]
end Go.PM
namespace Go.PM
set_option maxHeartbeats 4000000 in
theorem xF (s0:ByteArray) (U6:s0.size≤9223372036854775807):TC 4 [sV s0] (.sc (.bool true)):=by
 refine TC.walk ⟨true,false⟩ xK rfl (Nat.le_of_ble_eq_true rfl) (LH rfl) rfl ?_
 by_cases RB:(1000000:Int)<(s0.size:Int)
 ·simp only[kQ,jP,wK,RB,gY,VX,Nat.reduceEqDiff,Nat.reduceAdd,Nat.reduceLeDiff,Nat.reduceLT,Nat.reduceSub]
  exact aI rfl
 have hb0:s0.size≤1000000000:=by omega
 have cs:=DV s0 hb0
 have ci:=Ey s0 hb0
 have Pp:=OD s0
 have hsn:=Pp.n
 generalize Cu:(kE [s0]).getD nH=val at *
 generalize (kE [s0]).isSome=ok at *
 simp only[kQ,jP,wK,RB,gY,VX,Nat.reduceEqDiff,Nat.reduceAdd,Nat.reduceLeDiff,Nat.reduceLT,Nat.reduceSub]
 refine Jl cs rfl (Mm (aI rfl)) JP.bM fun v1 H1 p1 v1' => ?_
 simp only[gY,VX,Nat.reduceEqDiff,Nat.reduceAdd,Nat.reduceLeDiff,Nat.reduceLT,Nat.reduceSub]
 have w1:=Re (lo:=0) (H:=H1) v1'.ag3 (Nat.zero_le _)
 simp only[w1,gY,VX,Nat.reduceEqDiff,Nat.reduceAdd,Nat.reduceLeDiff,Nat.reduceLT,Nat.reduceSub]
 have p2:=List.prefix_append H1 [.row 0 [v1] 3 true]
 have q1:aF (H1++[.row 0 [v1] 3 true]) H1.length 0=some ([v1],3,true):=dY
 generalize eh2:H1++[.row 0 [v1] 3 true]=H2 at *
 refine Jl ci rfl (Mm (aI rfl)) DO.bM fun v3 H3 p3 v3' => ?_
 simp only[gY,VX,Nat.reduceEqDiff,Nat.reduceAdd,Nat.reduceLeDiff,Nat.reduceLT,Nat.reduceSub]
 have w3:=Re (lo:=0) (H:=H3) v3'.ag3 (Nat.zero_le _)
 simp only[w3,gY,VX,Nat.reduceEqDiff,Nat.reduceAdd,Nat.reduceLeDiff,Nat.reduceLT,Nat.reduceSub]
 have p4:=List.prefix_append H3 [.row 0 [v3] 3 true]
 have q3:aF (H3++[.row 0 [v3] 3 true]) H3.length 0=some ([v3],3,true):=dY
 generalize eh4:H3++[.row 0 [v3] 3 true]=H4 at *
 have W4:=v1'.bM (cP.pre ((p2.trans p3).trans p4))
 have G4:=v3'.bM (cP.pre p4)
 have cW4:=bT (p3.trans p4) q1
 have cG4:=q3
 have aW:=v1'.ag3
 have aG:=v3'.ag3
 have le1:=p1.length_le
 have le2:=p2.length_le
 have le3:=p3.length_le
 have le4:=p4.length_le
 have bW:=jJ q1
 have bG:=jJ q3
 have kb:PB true (Value.bool ok) (Value.bool ok)=some (.bool false):=Wa ok
 simp only[Li aG cG4,Li aW cW4,abH Pp G4.fz W4.2.now,kb,gY,VX,Nat.reduceEqDiff,Nat.reduceAdd,Nat.reduceLeDiff,Nat.reduceLT,Nat.reduceSub]
 refine Vq G4 (Nat.zero_le _) (by omega) (by have:=Pp.g;omega) (by omega) fun M1 ml mG mk => ?_
 have k0:¬(101+(Vg val:Int))<0:=by omega
 have k1:¬((101+(Vg val:Int))≠(101+(Vg val:Int))):=fun h=>h rfl
 have mW:=W4.bM (H':=M1) fun b g x h1 h2 h3=>mk b g x (by omega) h3
 have mcW:=mk _ _ _ (by omega) cW4
 have mcG:=mk _ _ _ (by omega) cG4
 simp only[Li aG mcG,Sw Pp mG.fz,k0,ne_eq,not_true_eq_false,decide_false,gY,VX,Nat.reduceEqDiff,Nat.reduceAdd,Nat.reduceLeDiff,Nat.reduceLT,Nat.reduceSub]
 generalize M1=H5 at *
 refine Jl ci rfl (Mm (aI rfl)) DO.bM fun v6 H6 p6 v6' => ?_
 simp only[gY,VX,Nat.reduceEqDiff,Nat.reduceAdd,Nat.reduceLeDiff,Nat.reduceLT,Nat.reduceSub]
 have w6:=Re (lo:=0) (H:=H6) v6'.ag3 (Nat.zero_le _)
 simp only[w6,gY,VX,Nat.reduceEqDiff,Nat.reduceAdd,Nat.reduceLeDiff,Nat.reduceLT,Nat.reduceSub]
 have p7:=List.prefix_append H6 [.row 0 [v6] 3 true]
 have q6:aF (H6++[.row 0 [v6] 3 true]) H6.length 0=some ([v6],3,true):=dY
 generalize eh7:H6++[.row 0 [v6] 3 true]=H7 at *
 have aX:=v6'.ag3
 have X1:=v6'.bM (cP.pre p7)
 have cX:=q6
 have nW:=mW.bM (cP.pre (p6.trans p7))
 have nG:=mG.bM (cP.pre (p6.trans p7))
 have ncW:=bT (p6.trans p7) mcW
 have ncG:=bT (p6.trans p7) mcG
 simp only[Li aX cX,Li aW ncW,Li aG ncG,abH Pp X1.fz nW.2.now,kb,Sw Pp nG.fz,k0,ne_eq,not_true_eq_false,decide_false,gY,VX,Nat.reduceEqDiff,Nat.reduceAdd,Nat.reduceLeDiff,Nat.reduceLT,Nat.reduceSub]
 exact aI rfl
end Go.PM
namespace Go.PM
open Go.Proofs
theorem CM {P:Program} {w:World} {name:String} {d:DataW Unit}:∀ {l:List (String×DataW Unit)} {ps:List MemPlace},DataW.LaidVars P w l ps→(name,d)∈l →
  ∃g t cs fuel p,P.globalNamed name=some g∧(P.globals[g]?).map (·.type)=some t∧w.var? P name=some cs∧DataW.trod (fun _=>()) P w 0 (fun _=>true) false fuel t cs.toList=some (d,p)
 | [],_,_,hm=>by cases hm
 |
  (n,e)::r,ps,h,hm=>by
  obtain⟨g,t,cs,fuel,p,q,h1,h2,h3,h4,h5,_⟩:=h
  rcases List.mem_cons.1 hm with he | hm
  ·cases he
   exact⟨g,t,cs,fuel,p,h1,h2,h3,h4⟩
  ·exact CM h5 hm
theorem Jx {W:World} {l:List (String×DataW Unit)} (hl:laidMetH Tryz.prog l W) (hp:(l.all fun x=>x.2.handleName?.isNone)=true) (hm:("internal/strconv.uint64pow10",Lib.tabData .u64 Lib.pow10Tab)∈l)
  {t e:TypeId} {n:Nat} (hty:(Tryz.prog.globals[1]?).map (·.type)=some t) (ht:Tryz.prog.underlying t=some (.array n e)) (he:Tryz.prog.underlying e=some (.int .u64)) (hce:Tryz.prog.cellsOf e=1) (hct:Tryz.prog.cellsOf t=n):LR W:=by
 rw[MakeChecks.laidMetH_plain _ _ _ hp] at hl
 obtain⟨ps,h1,_⟩:=hl
 obtain⟨g',t',cs,fuel,p,TA,Zx,Yd,hd⟩:=CM h1 hm
 have hg:Tryz.prog.globalNamed "internal/strconv.uint64pow10"=some 1:=by kernel_rfl
 obtain rfl:=Option.some.inj (hg.symm.trans TA)
 obtain rfl:=Option.some.inj (hty.symm.trans Zx)
 have TB:=Lib.cells_of_tab ht he hce hct hd
 intro x hx
 have Tt:x=(1,(Lib.pow10Tab.map fun z=>Value.int .u64 z).toArray):=by simpa[YL] using hx
 subst Tt
 unfold World.var? at Yd
 rw[hg,Option.bind_some] at Yd
 split at Yd
 ·rename_i zI e' fz' hh
  cases Yd
  refine⟨e',fz',?_⟩
  rw[←TB]
  simpa using hh
 ·cases Yd
end Go.PM