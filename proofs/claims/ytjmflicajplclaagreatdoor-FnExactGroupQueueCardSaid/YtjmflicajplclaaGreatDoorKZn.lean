/- Texts of a claim, in one: part 14. -/
import Derived.Test.YtjmflicajplclaaGreatDoorCards
import Derived.Test.YtjmflicajplclaaGreatDoorTie
import Derived.SevenTiedAt
import Derived.Test.YtjmflicajplclaaGreatDoorKZm
set_option linter.unusedSimpArgs false
set_option linter.unusedVariables false
namespace Go.Proofs.YtjmflicajplclaaGreatDoor
open Go.ChangeShapes Go.WideShapes Go.ChangeAt Go.RowKit Go.PM
theorem acX (os:Os) (args:Array Value):laidMetH Tryz.prog Rows.fnExactGroupQueueRow.laid ((World.doorLaid Tryz.prog 62 os).forCall (fun _ _=>0) ⟨#[],args,[]⟩).memory:=by
 rw[MakeChecks.laidMetH_plain _ _ _ (by kernel_rfl)]
 exact laidMet_of_run' 8 (by kernel_rfl) (by kernel_rfl)
theorem agI {W:World} (h:laidMetH Tryz.prog Rows.fnExactGroupQueueRow.laid W):PE W :=
 Kg h (by kernel_rfl) (by first | exact .tail _ (.tail _ (.head _)) | exact .head _ | exact .tail _ (.head _)) (t:=281) (e:=171) (n:=20) (by kernel_rfl) (by kernel_rfl) (by kernel_rfl) (by kernel_rfl) (by kernel_rfl)
set_option maxRecDepth 100000 in
theorem lifted (os:Os) (started:os.Started) (T:Type) (enc:TypeId×Value→T) :
  ReturnsInHanded {} Tryz.checked os 5 .any (fun w args=>(Rows.fnExactGroupQueueSpec.pre enc Tryz.prog Tryz.f5 [] false w args∧laidMetH Tryz.prog Rows.fnExactGroupQueueRow.laid w)∧sizedMet enc Tryz.prog Tryz.f5 (OpenSpec.ofChange Rows.fnExactGroupQueueSpec) false w args) (Rows.fnExactGroupQueueSpec.post enc Tryz.prog Tryz.f5 false true false false):=by
 refine returnsInHanded_of_change_and (C:=Tryz.checked) (X:=fun w _=>laidMetH Tryz.prog Rows.fnExactGroupQueueRow.laid w) (fun _ _ _ hh h=>h.of_heap hh) own started (by kernel_rfl) Tryz.func5
  (ChangeSpec.witness_shaped (enc:=enc) (C:=Tryz.checked) (os:=os) (X:=fun w _=>laidMetH Tryz.prog Rows.fnExactGroupQueueRow.laid w) false (World.doorLaid Tryz.prog 62 os) #[.string ⟨#[]⟩,.string ⟨#[]⟩,.int .i64 0,.int .i64 0] 8 rfl (World.shaped_of_RefB (by kernel_rfl) (by kernel_rfl)) (by kernel_rfl) (by kernel_rfl) (by kernel_rfl) (acX os _)) ?_
 intro W base args ds gs before apP hW aAR avO hL _
 have aAD:=agI hL
 have Cq:∀(j:Nat) t v,Tryz.f5.params[j]? = some t→args[j]? = some v→Value.okWide Tryz.prog W .any base t v:=apP
 have hW':=hW
 obtain⟨p,q,auZ,hV,rfl,Yt,hnd⟩:=hW
 have aoF:DataW.TrodAll enc Tryz.prog W 0 (fun _=>true) true Tryz.f5.params.toList args.toList ds p:=auZ
 have B7:(DataW.weightsEach Tryz.prog (Tryz.f5.params.toList++Rows.fnExactGroupQueueSpec.plain.varTypes Tryz.prog) (ds++gs)).all (· ≤ reachBytes)=true:=avO
 rw[Tryz.params5] at aoF Cq B7
 obtain⟨v0,vs0,d0,ds0,p0,q0,xD,rfl,rfl,h0,r0⟩:=trodAll_cons aoF
 obtain⟨v1,vs1,d1,ds1,p1,q1,rfl,rfl,rfl,h1,r1⟩:=trodAll_cons r0
 obtain⟨v2,vs2,d2,ds2,p2,q2,rfl,rfl,rfl,h2,r2⟩:=trodAll_cons r1
 obtain⟨v3,vs3,d3,ds3,p3,q3,rfl,rfl,rfl,h3,r3⟩:=trodAll_cons r2
 obtain⟨rfl,rfl,rfl⟩:=trodAll_nil r3
 obtain rfl:args = #[v0,v1,v2,v3]:=by cases args;simp_all
 obtain⟨rfl,rfl⟩:=trodVars_none hV
 obtain⟨s0,rfl,rfl,rfl,hg0⟩:=Ns (Cq 0 _ _ rfl rfl) h0
 have hk0:s0.size≤140737488351232:=by have:=sized_string (bytes:=s0.data.toList) B7 (j:=0) rfl rfl;rw[Array.length_toList] at this;exact this
 obtain⟨s1,rfl,rfl,rfl,hg1⟩:=Ns (Cq 1 _ _ rfl rfl) h1
 have hk1:s1.size≤140737488351232:=by have:=sized_string (bytes:=s1.data.toList) B7 (j:=1) rfl rfl;rw[Array.length_toList] at this;exact this
 obtain⟨t2,rfl,rfl,rfl,wf2⟩:=open_int Tryz.underlying2 (Cq 2 _ _ rfl rfl) h2
 have hw2:=YZ wf2
 obtain⟨t3,rfl,rfl,rfl,wf3⟩:=open_int Tryz.underlying2 (Cq 3 _ _ rfl rfl) h3
 have hw3:=YZ wf3
 obtain⟨v,H',nY,rfl⟩:=(Ad s0 s1 t2 t3 hk0 hk1).yes rfl (ZI rfl rfl rfl rfl) (.cons _ _ _ _ (.sc _ rfl) (.cons _ _ _ _ (.sc _ rfl) (.cons _ _ _ _ (.sc _ rfl) (.cons _ _ _ _ (.sc _ rfl) .nil))))
 refine(YY In.empty (RL.cons (.str _) (RL.cons (.str _) (RL.cons (.int _ _) (RL.cons (.int _ _) (RL.nil _))))) nY).mono fun e W' he => ?_
 obtain⟨m',rv,rfl,Uv,bel⟩:=he
 cases Uv
 exact⟨_,rfl,_,_,_,[],_,[],hW',trodAll_mk1 (shut_bool Tryz.underlying4 _),(trodAll_cons_mk (Go.ChangeMaps.shut_string Tryz.underlying9 hg0) (trodAll_cons_mk (Go.ChangeMaps.shut_string Tryz.underlying9 hg1) (trodAll_cons_mk (shut_int Tryz.underlying2 wf2) (trodAll_cons_mk (shut_int Tryz.underlying2 wf3) trodAll_mk0)))),rfl,bel.frame _,fun h=>by cases h⟩
set_option maxHeartbeats 4000000 in
theorem Ts:joinedFacts Tryz.prog 5 Tryz.f5 Rows.fnExactGroupQueueSpec Rows.fnExactGroupQueueRow=true:=by
 unfold joinedFacts
 simp only[Bool.and_eq_true]
 repeat' apply And.intro
 all_goals as_aux_lemma=>kernel_rfl
theorem X6:Rows.FnExactGroupQueueSaid :=
 OpenClaim.holds_of_wide 5 Tryz.f5 rfl rfl rfl rfl rfl rfl rfl ⟨rfl,rfl,rfl,rfl,rfl⟩ rfl rfl rfl rfl rfl (by as_aux_lemma=>kernel_rfl) Tryz.func5 Ts
  (of_decide_eq_true (by as_aux_lemma=>kernel_rfl)) (by unfold Func.isWrapper;first | (rw[if_pos (by decide +kernel)];as_aux_lemma=>kernel_rfl) | (rw[if_neg (by decide +kernel)];exact⟨rfl,rfl⟩))
  (fun os started T enc _=>lifted os started T enc)
end Go.Proofs.YtjmflicajplclaaGreatDoor