/- Texts of a claim, in one: part 15. -/
import Derived.Test.YtjmflicajplclaaGreatDoorCards
import Derived.Test.YtjmflicajplclaaGreatDoorTie
import Derived.SevenTiedAt
import Derived.Test.YtjmflicajplclaaGreatDoorKBn
set_option linter.unusedSimpArgs false
set_option linter.unusedVariables false
namespace Go.Proofs.YtjmflicajplclaaGreatDoor
open Go.ChangeShapes Go.WideShapes Go.ChangeAt Go.RowKit Go.PM
theorem afT (os:Os) (args:Array Value):laidMetH Tryz.prog Rows.fnExactBatchQueueRow.laid ((World.doorLaid Tryz.prog 62 os).forCall (fun _ _=>0) ⟨#[],args,[]⟩).memory:=by
 rw[MakeChecks.laidMetH_plain _ _ _ (by kernel_rfl)]
 exact laidMet_of_run' 8 (by kernel_rfl) (by kernel_rfl)
theorem amW {W:World} (h:laidMetH Tryz.prog Rows.fnExactBatchQueueRow.laid W):RF W :=
 NO h (by kernel_rfl) (by first | exact .tail _ (.tail _ (.head _)) | exact .head _ | exact .tail _ (.head _)) (t:=281) (e:=171) (n:=20) (by kernel_rfl) (by kernel_rfl) (by kernel_rfl) (by kernel_rfl) (by kernel_rfl)
set_option maxRecDepth 100000 in
theorem lifted (os:Os) (started:os.Started) (T:Type) (enc:TypeId×Value→T) :
  ReturnsInHanded {} Tryz.checked os 9 .any (fun w args=>(Rows.fnExactBatchQueueSpec.pre enc Tryz.prog Tryz.f9 [] false w args∧laidMetH Tryz.prog Rows.fnExactBatchQueueRow.laid w)∧sizedMet enc Tryz.prog Tryz.f9 (OpenSpec.ofChange Rows.fnExactBatchQueueSpec) false w args) (Rows.fnExactBatchQueueSpec.post enc Tryz.prog Tryz.f9 false true false false):=by
 refine returnsInHanded_of_change_and (C:=Tryz.checked) (X:=fun w _=>laidMetH Tryz.prog Rows.fnExactBatchQueueRow.laid w) (fun _ _ _ hh h=>h.of_heap hh) own started (by kernel_rfl) Tryz.func9
  (ChangeSpec.witness_shaped (enc:=enc) (C:=Tryz.checked) (os:=os) (X:=fun w _=>laidMetH Tryz.prog Rows.fnExactBatchQueueRow.laid w) false (World.doorLaid Tryz.prog 62 os) #[.string ⟨#[]⟩,.slice none 0 0,.string ⟨#[]⟩,.int .i64 0,.bool false] 8 rfl (World.shaped_of_RefB (by kernel_rfl) (by kernel_rfl)) (by kernel_rfl) (by kernel_rfl) (by kernel_rfl) (afT os _)) ?_
 intro W base args ds gs before awG hW aF8 aA3 hL _
 have aDO:=amW hL
 have DY:∀(j:Nat) t v,Tryz.f9.params[j]? = some t→args[j]? = some v→Value.okWide Tryz.prog W .any base t v:=awG
 have hW':=hW
 obtain⟨p,q,aA5,hV,rfl,Xw,hnd⟩:=hW
 have awD:DataW.TrodAll enc Tryz.prog W 0 (fun _=>true) true Tryz.f9.params.toList args.toList ds p:=aA5
 have Co:(DataW.weightsEach Tryz.prog (Tryz.f9.params.toList++Rows.fnExactBatchQueueSpec.plain.varTypes Tryz.prog) (ds++gs)).all (· ≤ reachBytes)=true:=aA3
 rw[Tryz.params9] at awD DY Co
 obtain⟨v0,vs0,d0,ds0,p0,q0,AF,rfl,rfl,h0,r0⟩:=trodAll_cons awD
 obtain⟨v1,vs1,d1,ds1,p1,q1,rfl,rfl,rfl,h1,r1⟩:=trodAll_cons r0
 obtain⟨v2,vs2,d2,ds2,p2,q2,rfl,rfl,rfl,h2,r2⟩:=trodAll_cons r1
 obtain⟨v3,vs3,d3,ds3,p3,q3,rfl,rfl,rfl,h3,r3⟩:=trodAll_cons r2
 obtain⟨v4,vs4,d4,ds4,p4,q4,rfl,rfl,rfl,h4,r4⟩:=trodAll_cons r3
 obtain⟨rfl,rfl,rfl⟩:=trodAll_nil r4
 obtain rfl:args = #[v0,v1,v2,v3,v4]:=by cases args;simp_all
 obtain⟨rfl,rfl⟩:=trodVars_none hV
 obtain⟨s0,rfl,rfl,rfl,hg0⟩:=Qi (DY 0 _ _ rfl rfl) h0
 have hk0:s0.size≤140737488351232:=by have:=sized_string (bytes:=s0.data.toList) Co (j:=0) rfl rfl;rw[Array.length_toList] at this;exact this
 have lt1:∀x∈p1,x.block<W.heap.size:=by obtain⟨m,hm⟩:=h1;exact DataW.trod_lt m _ _ _ hm
 obtain⟨m1,L1,pv1,s1,hI1,QQ,ayJ,hT1,hg1⟩:=ZU h1 (DY 1 _ _ rfl rfl) In.empty
 have hk1:s1.length≤140737488355328:=by obtain⟨c,k1,k2⟩:=ajC Tryz.underlying33 (DY 1 _ _ rfl rfl) h1 ayJ hT1;exact Nat.le_trans k1 (asG Co (j:=1) k2 rfl rfl Tryz.underlying33 (by kernel_rfl))
 obtain⟨s2,rfl,rfl,rfl,hg2⟩:=Qi (DY 2 _ _ rfl rfl) h2
 have hk2:s2.size≤140737488351232:=by have:=sized_string (bytes:=s2.data.toList) Co (j:=2) rfl rfl;rw[Array.length_toList] at this;exact this
 obtain⟨t3,rfl,rfl,rfl,wf3⟩:=open_int Tryz.underlying2 (DY 3 _ _ rfl rfl) h3
 have hw3:=arI wf3
 obtain⟨t4,rfl,rfl,rfl⟩:=open_bool Tryz.underlying4 (DY 4 _ _ rfl rfl) h4
 obtain⟨v,H',pI,rfl⟩:=(Bg s0 s1 s2 t3 t4 hk0 hg1 hk2 hk1).yes rfl (R2 rfl (dG _) rfl rfl rfl) (.cons _ _ _ _ (.sc _ rfl) (.cons _ _ _ _ hT1 (.cons _ _ _ _ (.sc _ rfl) (.cons _ _ _ _ (.sc _ rfl) (.cons _ _ _ _ (.sc _ rfl) .nil)))))
 refine(ajN hI1 (RL.cons (.str _) (RL.cons ayJ (RL.cons (.str _) (RL.cons (.int _ _) (RL.cons (.bool _) (RL.nil m1)))))) pI).mono fun e W' he => ?_
 obtain⟨m',rv,rfl,Wt,bel⟩:=he
 cases Wt
 exact⟨_,rfl,_,_,_,[],_,[],hW',trodAll_mk1 (shut_bool Tryz.underlying4 _),(trodAll_cons_mk (Go.ChangeMaps.shut_string Tryz.underlying9 hg0) (trodAll_cons_mk (Below.trod laidOut (by kernel_rfl) (of_decide_eq_true (by kernel_rfl)) h1 bel lt1) (trodAll_cons_mk (Go.ChangeMaps.shut_string Tryz.underlying9 hg2) (trodAll_cons_mk (shut_int Tryz.underlying2 wf3) (trodAll_cons_mk (shut_bool Tryz.underlying4 _) trodAll_mk0))))),rfl,bel.frame _,fun h=>by cases h⟩
set_option maxHeartbeats 4000000 in
theorem WA:joinedFacts Tryz.prog 9 Tryz.f9 Rows.fnExactBatchQueueSpec Rows.fnExactBatchQueueRow=true:=by
 unfold joinedFacts
 simp only[Bool.and_eq_true]
 repeat' apply And.intro
 all_goals as_aux_lemma=>kernel_rfl
theorem Zt:Rows.FnExactBatchQueueSaid :=
 OpenClaim.holds_of_wide 9 Tryz.f9 rfl rfl rfl rfl rfl rfl rfl ⟨rfl,rfl,rfl,rfl,rfl⟩ rfl rfl rfl rfl rfl (by as_aux_lemma=>kernel_rfl) Tryz.func9 WA
  (of_decide_eq_true (by as_aux_lemma=>kernel_rfl)) (by unfold Func.isWrapper;first | (rw[if_pos (by decide +kernel)];as_aux_lemma=>kernel_rfl) | (rw[if_neg (by decide +kernel)];exact⟨rfl,rfl⟩))
  (fun os started T enc _=>lifted os started T enc)
end Go.Proofs.YtjmflicajplclaaGreatDoor