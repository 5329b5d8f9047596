/- Texts of a claim, in one: part 13. -/
import Derived.Test.YtodamlihdkalfaaGreatDoorCards
import Derived.Test.YtodamlihdkalfaaGreatDoorTie
import Derived.SevenTiedAt
import Derived.Test.YtodamlihdkalfaaGreatDoorKRl
set_option linter.unusedSimpArgs false
set_option linter.unusedVariables false
namespace Go.Proofs.YtodamlihdkalfaaGreatDoor
open Go.ChangeShapes Go.WideShapes Go.ChangeAt Go.RowKit Go.PM
theorem Xb (os:Os) (args:Array Value):laidMetH Tryz.prog Rows.fnExactMomentOfRow.laid ((World.doorLaid Tryz.prog 62 os).forCall (fun _ _=>0) ⟨#[],args,[]⟩).memory:=by
 rw[MakeChecks.laidMetH_plain _ _ _ (by kernel_rfl)]
 exact laidMet_of_run' 8 (by kernel_rfl) (by kernel_rfl)
theorem Zy {W:World} (h:laidMetH Tryz.prog Rows.fnExactMomentOfRow.laid W):LJ W :=
 IG h (by kernel_rfl) (by first | exact .tail _ (.tail _ (.head _)) | exact .head _ | exact .tail _ (.head _)) (t:=291) (e:=128) (n:=20) (by kernel_rfl) (by kernel_rfl) (by kernel_rfl) (by kernel_rfl) (by kernel_rfl)
set_option maxRecDepth 100000 in
theorem lifted (os:Os) (started:os.Started) (T:Type) (enc:TypeId×Value→T) :
  ReturnsInHanded {} Tryz.checked os 8 .any (fun w args=>(Rows.fnExactMomentOfSpec.pre enc Tryz.prog Tryz.f8 [] false w args∧laidMetH Tryz.prog Rows.fnExactMomentOfRow.laid w)∧sizedMet enc Tryz.prog Tryz.f8 (OpenSpec.ofChange Rows.fnExactMomentOfSpec) false w args) (Rows.fnExactMomentOfSpec.post enc Tryz.prog Tryz.f8 false true false false):=by
 refine returnsInHanded_of_change_and (C:=Tryz.checked) (X:=fun w _=>laidMetH Tryz.prog Rows.fnExactMomentOfRow.laid w) (fun _ _ _ hh h=>h.of_heap hh) own started (by kernel_rfl) Tryz.func8
  (ChangeSpec.witness_shaped (enc:=enc) (C:=Tryz.checked) (os:=os) (X:=fun w _=>laidMetH Tryz.prog Rows.fnExactMomentOfRow.laid w) false (World.doorLaid Tryz.prog 62 os) #[.slice none 0 0,.int .i64 0] 8 rfl (World.shaped_of_RefB (by kernel_rfl) (by kernel_rfl)) (by kernel_rfl) (by kernel_rfl) (by kernel_rfl) (Xb os _)) ?_
 intro W base args ds gs before afC hW avR W3 hL _
 have apI:=Zy hL
 have Is:∀(j:Nat) t v,Tryz.f8.params[j]? = some t→args[j]? = some v→Value.okWide Tryz.prog W .any base t v:=afC
 have hW':=hW
 obtain⟨p,q,anC,hV,rfl,Zl,hnd⟩:=hW
 have ahR:DataW.TrodAll enc Tryz.prog W 0 (fun _=>true) true Tryz.f8.params.toList args.toList ds p:=anC
 have Bc:(DataW.weightsEach Tryz.prog (Tryz.f8.params.toList++Rows.fnExactMomentOfSpec.plain.varTypes Tryz.prog) (ds++gs)).all (· ≤ reachBytes)=true:=W3
 rw[Tryz.params8] at ahR Is Bc
 obtain⟨v0,vs0,d0,ds0,p0,q0,uU,rfl,rfl,h0,r0⟩:=trodAll_cons ahR
 obtain⟨v1,vs1,d1,ds1,p1,q1,rfl,rfl,rfl,h1,r1⟩:=trodAll_cons r0
 obtain⟨rfl,rfl,rfl⟩:=trodAll_nil r1
 obtain rfl:args = #[v0,v1]:=by cases args;simp_all
 obtain⟨rfl,rfl⟩:=trodVars_none hV
 have lt0:∀x∈p0,x.block<W.heap.size:=by obtain⟨m,hm⟩:=h0;exact DataW.trod_lt m _ _ _ hm
 obtain⟨m0,L0,pv0,s0,hI0,Yg,anV,hT0,hg0⟩:=Tx h0 (Is 0 _ _ rfl rfl) In.empty
 obtain⟨t1,rfl,rfl,rfl,wf1⟩:=open_int Tryz.underlying2 (Is 1 _ _ rfl rfl) h1
 have hw1:=adQ wf1
 obtain⟨v,H',lX,rfl⟩:=(Ab s0 t1 hg0).yes rfl (adA (eI _) rfl) (.cons _ _ _ _ hT0 (.cons _ _ _ _ (.sc _ rfl) .nil))
 refine(Xv hI0 (RL.cons anV (RL.cons (.int _ _) (RL.nil m0))) lX).mono fun e W' he => ?_
 obtain⟨m',rv,rfl,Q8,bel⟩:=he
 cases Q8
 exact⟨_,rfl,_,_,_,[],_,[],hW',trodAll_mk1 (shut_bool Tryz.underlying4 _),(trodAll_cons_mk (Below.trod laidOut (by kernel_rfl) (of_decide_eq_true (by kernel_rfl)) h0 bel lt0) (trodAll_cons_mk (shut_int Tryz.underlying2 wf1) trodAll_mk0)),rfl,bel.frame _,fun h=>by cases h⟩
set_option maxHeartbeats 4000000 in
theorem P8:joinedFacts Tryz.prog 8 Tryz.f8 Rows.fnExactMomentOfSpec Rows.fnExactMomentOfRow=true:=by
 unfold joinedFacts
 simp only[Bool.and_eq_true]
 repeat' apply And.intro
 all_goals as_aux_lemma=>kernel_rfl
theorem Tw:Rows.FnExactMomentOfSaid :=
 OpenClaim.holds_of_wide 8 Tryz.f8 rfl rfl rfl rfl rfl rfl rfl ⟨rfl,rfl,rfl,rfl,rfl⟩ rfl rfl rfl rfl rfl (by as_aux_lemma=>kernel_rfl) Tryz.func8 P8
  (of_decide_eq_true (by as_aux_lemma=>kernel_rfl)) (by unfold Func.isWrapper;first | (rw[if_pos (by decide +kernel)];as_aux_lemma=>kernel_rfl) | (rw[if_neg (by decide +kernel)];exact⟨rfl,rfl⟩))
  (fun os started T enc _=>lifted os started T enc)
end Go.Proofs.YtodamlihdkalfaaGreatDoor