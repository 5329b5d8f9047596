/- Texts of a claim, in one: part 14. -/
import Derived.Test.YtjmflicajplclaaGreatDoorCards
import Derived.Test.YtjmflicajplclaaGreatDoorTie
import Derived.SevenTiedAt
import Derived.Test.YtjmflicajplclaaGreatDoorKWm
set_option linter.unusedSimpArgs false
set_option linter.unusedVariables false
namespace Go.Proofs.YtjmflicajplclaaGreatDoor
open Go.ChangeShapes Go.WideShapes Go.ChangeAt Go.RowKit Go.PM
theorem adS (os:Os) (args:Array Value):laidMetH Tryz.prog Rows.fnExactBreakQueueRow.laid ((World.doorLaid Tryz.prog 62 os).forCall (fun _ _=>0) ⟨#[],args,[]⟩).memory:=by
 rw[MakeChecks.laidMetH_plain _ _ _ (by kernel_rfl)]
 exact laidMet_of_run' 8 (by kernel_rfl) (by kernel_rfl)
theorem agA {W:World} (h:laidMetH Tryz.prog Rows.fnExactBreakQueueRow.laid W):Pw W :=
 Mi h (by kernel_rfl) (by first | exact .tail _ (.tail _ (.head _)) | exact .head _ | exact .tail _ (.head _)) (t:=281) (e:=171) (n:=20) (by kernel_rfl) (by kernel_rfl) (by kernel_rfl) (by kernel_rfl) (by kernel_rfl)
set_option maxRecDepth 100000 in
theorem lifted (os:Os) (started:os.Started) (T:Type) (enc:TypeId×Value→T) :
  ReturnsInHanded {} Tryz.checked os 7 .any (fun w args=>(Rows.fnExactBreakQueueSpec.pre enc Tryz.prog Tryz.f7 [] false w args∧laidMetH Tryz.prog Rows.fnExactBreakQueueRow.laid w)∧sizedMet enc Tryz.prog Tryz.f7 (OpenSpec.ofChange Rows.fnExactBreakQueueSpec) false w args) (Rows.fnExactBreakQueueSpec.post enc Tryz.prog Tryz.f7 false true false false):=by
 refine returnsInHanded_of_change_and (C:=Tryz.checked) (X:=fun w _=>laidMetH Tryz.prog Rows.fnExactBreakQueueRow.laid w) (fun _ _ _ hh h=>h.of_heap hh) own started (by kernel_rfl) Tryz.func7
  (ChangeSpec.witness_shaped (enc:=enc) (C:=Tryz.checked) (os:=os) (X:=fun w _=>laidMetH Tryz.prog Rows.fnExactBreakQueueRow.laid w) false (World.doorLaid Tryz.prog 62 os) #[.string ⟨#[]⟩,.string ⟨#[]⟩,.string ⟨#[]⟩,.string ⟨#[]⟩,.int .i64 0] 8 rfl (World.shaped_of_RefB (by kernel_rfl) (by kernel_rfl)) (by kernel_rfl) (by kernel_rfl) (by kernel_rfl) (adS os _)) ?_
 intro W base args ds gs before apI hW aBj axM hL _
 have aAQ:=agA hL
 have C5:∀(j:Nat) t v,Tryz.f7.params[j]? = some t→args[j]? = some v→Value.okWide Tryz.prog W .any base t v:=apI
 have hW':=hW
 obtain⟨p,q,axX,hV,rfl,UX,hnd⟩:=hW
 have apO:DataW.TrodAll enc Tryz.prog W 0 (fun _=>true) true Tryz.f7.params.toList args.toList ds p:=axX
 have Bj:(DataW.weightsEach Tryz.prog (Tryz.f7.params.toList++Rows.fnExactBreakQueueSpec.plain.varTypes Tryz.prog) (ds++gs)).all (· ≤ reachBytes)=true:=axM
 rw[Tryz.params7] at apO C5 Bj
 obtain⟨v0,vs0,d0,ds0,p0,q0,yJ,rfl,rfl,h0,r0⟩:=trodAll_cons apO
 obtain⟨v1,vs1,d1,ds1,p1,q1,rfl,rfl,rfl,h1,r1⟩:=trodAll_cons r0
 obtain⟨v2,vs2,d2,ds2,p2,q2,rfl,rfl,rfl,h2,r2⟩:=trodAll_cons r1
 obtain⟨v3,vs3,d3,ds3,p3,q3,rfl,rfl,rfl,h3,r3⟩:=trodAll_cons r2
 obtain⟨v4,vs4,d4,ds4,p4,q4,rfl,rfl,rfl,h4,r4⟩:=trodAll_cons r3
 obtain⟨rfl,rfl,rfl⟩:=trodAll_nil r4
 obtain rfl:args = #[v0,v1,v2,v3,v4]:=by cases args;simp_all
 obtain⟨rfl,rfl⟩:=trodVars_none hV
 obtain⟨s0,rfl,rfl,rfl,hg0⟩:=DU (C5 0 _ _ rfl rfl) h0
 have hk0:s0.size≤140737488351232:=by have:=sized_string (bytes:=s0.data.toList) Bj (j:=0) rfl rfl;rw[Array.length_toList] at this;exact this
 obtain⟨s1,rfl,rfl,rfl,hg1⟩:=DU (C5 1 _ _ rfl rfl) h1
 have hk1:s1.size≤140737488351232:=by have:=sized_string (bytes:=s1.data.toList) Bj (j:=1) rfl rfl;rw[Array.length_toList] at this;exact this
 obtain⟨s2,rfl,rfl,rfl,hg2⟩:=DU (C5 2 _ _ rfl rfl) h2
 have Zm:s2.size≤140737488351232:=by have:=sized_string (bytes:=s2.data.toList) Bj (j:=2) rfl rfl;rw[Array.length_toList] at this;exact this
 obtain⟨s3,rfl,rfl,rfl,hg3⟩:=DU (C5 3 _ _ rfl rfl) h3
 have hk3:s3.size≤140737488351232:=by have:=sized_string (bytes:=s3.data.toList) Bj (j:=3) rfl rfl;rw[Array.length_toList] at this;exact this
 obtain⟨t4,rfl,rfl,rfl,wf4⟩:=open_int Tryz.underlying2 (C5 4 _ _ rfl rfl) h4
 have hw4:=alR wf4
 obtain⟨v,H',nT,rfl⟩:=(zY s0 s1 s2 s3 t4 hk0 hk1 Zm hk3).yes rfl (Qd rfl rfl rfl rfl rfl) (.cons _ _ _ _ (.sc _ rfl) (.cons _ _ _ _ (.sc _ rfl) (.cons _ _ _ _ (.sc _ rfl) (.cons _ _ _ _ (.sc _ rfl) (.cons _ _ _ _ (.sc _ rfl) .nil)))))
 refine(ZZ In.empty (RL.cons (.str _) (RL.cons (.str _) (RL.cons (.str _) (RL.cons (.str _) (RL.cons (.int _ _) (RL.nil _)))))) nT).mono fun e W' he => ?_
 obtain⟨m',rv,rfl,Tm,bel⟩:=he
 cases Tm
 exact⟨_,rfl,_,_,_,[],_,[],hW',trodAll_mk1 (shut_bool Tryz.underlying4 _),(trodAll_cons_mk (Go.ChangeMaps.shut_string Tryz.underlying9 hg0) (trodAll_cons_mk (Go.ChangeMaps.shut_string Tryz.underlying9 hg1) (trodAll_cons_mk (Go.ChangeMaps.shut_string Tryz.underlying9 hg2) (trodAll_cons_mk (Go.ChangeMaps.shut_string Tryz.underlying9 hg3) (trodAll_cons_mk (shut_int Tryz.underlying2 wf4) trodAll_mk0))))),rfl,bel.frame _,fun h=>by cases h⟩
set_option maxHeartbeats 4000000 in
theorem Uo:joinedFacts Tryz.prog 7 Tryz.f7 Rows.fnExactBreakQueueSpec Rows.fnExactBreakQueueRow=true:=by
 unfold joinedFacts
 simp only[Bool.and_eq_true]
 repeat' apply And.intro
 all_goals as_aux_lemma=>kernel_rfl
theorem XH:Rows.FnExactBreakQueueSaid :=
 OpenClaim.holds_of_wide 7 Tryz.f7 rfl rfl rfl rfl rfl rfl rfl ⟨rfl,rfl,rfl,rfl,rfl⟩ rfl rfl rfl rfl rfl (by as_aux_lemma=>kernel_rfl) Tryz.func7 Uo
  (of_decide_eq_true (by as_aux_lemma=>kernel_rfl)) (by unfold Func.isWrapper;first | (rw[if_pos (by decide +kernel)];as_aux_lemma=>kernel_rfl) | (rw[if_neg (by decide +kernel)];exact⟨rfl,rfl⟩))
  (fun os started T enc _=>lifted os started T enc)
end Go.Proofs.YtjmflicajplclaaGreatDoor