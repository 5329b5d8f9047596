/- Texts of a claim, in one: part 16. -/
import Derived.Test.YtjmflicajplclaaGreatDoorCards
import Derived.Test.YtjmflicajplclaaGreatDoorTie
import Derived.SevenTiedAt
import Derived.Test.YtjmflicajplclaaGreatDoorKAo
set_option linter.unusedSimpArgs false
set_option linter.unusedVariables false
namespace Go.Proofs.YtjmflicajplclaaGreatDoor
open Go.ChangeShapes Go.WideShapes Go.ChangeAt Go.RowKit Go.PM
theorem amA (os:Os) (args:Array Value):laidMetH Tryz.prog Rows.fnExactMomentOfServiceRow.laid ((World.doorLaid Tryz.prog 62 os).forCall (fun _ _=>0) ⟨#[],args,[]⟩).memory:=by
 rw[MakeChecks.laidMetH_plain _ _ _ (by kernel_rfl)]
 exact laidMet_of_run' 8 (by kernel_rfl) (by kernel_rfl)
theorem apO {W:World} (h:laidMetH Tryz.prog Rows.fnExactMomentOfServiceRow.laid W):SL W :=
 P4 h (by kernel_rfl) (by first | exact .tail _ (.tail _ (.head _)) | exact .head _ | exact .tail _ (.head _)) (t:=281) (e:=171) (n:=20) (by kernel_rfl) (by kernel_rfl) (by kernel_rfl) (by kernel_rfl) (by kernel_rfl)
set_option maxRecDepth 100000 in
theorem lifted (os:Os) (started:os.Started) (T:Type) (enc:TypeId×Value→T) :
  ReturnsInHanded {} Tryz.checked os 11 .any (fun w args=>(Rows.fnExactMomentOfServiceSpec.pre enc Tryz.prog Tryz.f11 [] false w args∧laidMetH Tryz.prog Rows.fnExactMomentOfServiceRow.laid w)∧sizedMet enc Tryz.prog Tryz.f11 (OpenSpec.ofChange Rows.fnExactMomentOfServiceSpec) false w args) (Rows.fnExactMomentOfServiceSpec.post enc Tryz.prog Tryz.f11 false true false false):=by
 refine returnsInHanded_of_change_and (C:=Tryz.checked) (X:=fun w _=>laidMetH Tryz.prog Rows.fnExactMomentOfServiceRow.laid w) (fun _ _ _ hh h=>h.of_heap hh) own started (by kernel_rfl) Tryz.func11
  (ChangeSpec.witness_shaped (enc:=enc) (C:=Tryz.checked) (os:=os) (X:=fun w _=>laidMetH Tryz.prog Rows.fnExactMomentOfServiceRow.laid w) false (World.doorLaid Tryz.prog 62 os) #[.agg #[.slice none 0 0,.slice none 0 0,.slice none 0 0],.int .i64 0] 8 rfl (World.shaped_of_RefB (by kernel_rfl) (by kernel_rfl)) (by kernel_rfl) (by kernel_rfl) (by kernel_rfl) (amA os _)) ?_
 intro W base args ds gs before aBY hW aJx adN hL _
 have aG1:=apO hL
 have Gn:∀(j:Nat) t v,Tryz.f11.params[j]? = some t→args[j]? = some v→Value.okWide Tryz.prog W .any base t v:=aBY
 have hW':=hW
 obtain⟨p,q,aDT,hV,rfl,hfz,hnd⟩:=hW
 have aBQ:DataW.TrodAll enc Tryz.prog W 0 (fun _=>true) true Tryz.f11.params.toList args.toList ds p:=aDT
 have E7:(DataW.weightsEach Tryz.prog (Tryz.f11.params.toList++Rows.fnExactMomentOfServiceSpec.plain.varTypes Tryz.prog) (ds++gs)).all (· ≤ reachBytes)=true:=adN
 rw[Tryz.params11] at aBQ Gn E7
 obtain⟨v0,vs0,d0,ds0,p0,q0,Bp,rfl,rfl,h0,r0⟩:=trodAll_cons aBQ
 obtain⟨v1,vs1,d1,ds1,p1,q1,rfl,rfl,rfl,h1,r1⟩:=trodAll_cons r0
 obtain⟨rfl,rfl,rfl⟩:=trodAll_nil r1
 obtain rfl:args = #[v0,v1]:=by cases args;simp_all
 obtain⟨rfl,rfl⟩:=trodVars_none hV
 have lt0:∀x∈p0,x.block<W.heap.size:=by obtain⟨m,hm⟩:=h0;exact DataW.trod_lt m _ _ _ hm
 obtain⟨m0,L0,pv0,s0,hI0,hm0,aFe,hT0,hg0⟩:=anY h0 (Gn 0 _ _ rfl rfl) In.empty
 obtain⟨t1,rfl,rfl,rfl,wf1⟩:=open_int Tryz.underlying2 (Gn 1 _ _ rfl rfl) h1
 have hw1:=axT wf1
 obtain⟨v,H',qV,rfl⟩:=(zI s0 t1 hg0).yes rfl (Ak (rE _) rfl) (.cons _ _ _ _ hT0 (.cons _ _ _ _ (.sc _ rfl) .nil))
 refine(alR hI0 (RL.cons aFe (RL.cons (.int _ _) (RL.nil m0))) qV).mono fun e W' he => ?_
 obtain⟨m',rv,rfl,XF,bel⟩:=he
 cases XF
 exact⟨_,rfl,_,_,_,[],_,[],hW',trodAll_mk1 (shut_bool Tryz.underlying4 _),(trodAll_cons_mk (Below.trod laidOut (by kernel_rfl) (of_decide_eq_true (by kernel_rfl)) h0 bel lt0) (trodAll_cons_mk (shut_int Tryz.underlying2 wf1) trodAll_mk0)),rfl,bel.frame _,fun h=>by cases h⟩
set_option maxHeartbeats 4000000 in
theorem X5:joinedFacts Tryz.prog 11 Tryz.f11 Rows.fnExactMomentOfServiceSpec Rows.fnExactMomentOfServiceRow=true:=by
 unfold joinedFacts
 simp only[Bool.and_eq_true]
 repeat' apply And.intro
 all_goals as_aux_lemma=>kernel_rfl
theorem acO:Rows.FnExactMomentOfServiceSaid :=
 OpenClaim.holds_of_wide 11 Tryz.f11 rfl rfl rfl rfl rfl rfl rfl ⟨rfl,rfl,rfl,rfl,rfl⟩ rfl rfl rfl rfl rfl (by as_aux_lemma=>kernel_rfl) Tryz.func11 X5
  (of_decide_eq_true (by as_aux_lemma=>kernel_rfl)) (by unfold Func.isWrapper;first | (rw[if_pos (by decide +kernel)];as_aux_lemma=>kernel_rfl) | (rw[if_neg (by decide +kernel)];exact⟨rfl,rfl⟩))
  (fun os started T enc _=>lifted os started T enc)
end Go.Proofs.YtjmflicajplclaaGreatDoor