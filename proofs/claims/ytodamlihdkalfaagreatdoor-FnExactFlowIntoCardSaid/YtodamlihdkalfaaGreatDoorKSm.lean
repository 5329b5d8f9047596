/- Texts of a claim, in one: part 13. -/
import Derived.Test.YtodamlihdkalfaaGreatDoorCards
import Derived.Test.YtodamlihdkalfaaGreatDoorTie
import Derived.SevenTiedAt
import Derived.Test.YtodamlihdkalfaaGreatDoorKSl
set_option linter.unusedSimpArgs false
set_option linter.unusedVariables false
namespace Go.Proofs.YtodamlihdkalfaaGreatDoor
open Go.ChangeShapes Go.WideShapes Go.ChangeAt Go.RowKit Go.PM
theorem Xp (os:Os) (args:Array Value):laidMetH Tryz.prog Rows.fnExactFlowIntoRow.laid ((World.doorLaid Tryz.prog 62 os).forCall (fun _ _=>0) ⟨#[],args,[]⟩).memory:=by
 rw[MakeChecks.laidMetH_plain _ _ _ (by kernel_rfl)]
 exact laidMet_of_run' 8 (by kernel_rfl) (by kernel_rfl)
theorem abL {W:World} (h:laidMetH Tryz.prog Rows.fnExactFlowIntoRow.laid W):OB W :=
 Lh h (by kernel_rfl) (by first | exact .tail _ (.tail _ (.head _)) | exact .head _ | exact .tail _ (.head _)) (t:=291) (e:=128) (n:=20) (by kernel_rfl) (by kernel_rfl) (by kernel_rfl) (by kernel_rfl) (by kernel_rfl)
set_option maxRecDepth 100000 in
theorem lifted (os:Os) (started:os.Started) (T:Type) (enc:TypeId×Value→T) :
  ReturnsInHanded {} Tryz.checked os 11 .any (fun w args=>(Rows.fnExactFlowIntoSpec.pre enc Tryz.prog Tryz.f11 [] false w args∧laidMetH Tryz.prog Rows.fnExactFlowIntoRow.laid w)∧sizedMet enc Tryz.prog Tryz.f11 (OpenSpec.ofChange Rows.fnExactFlowIntoSpec) false w args) (Rows.fnExactFlowIntoSpec.post enc Tryz.prog Tryz.f11 false true false false):=by
 refine returnsInHanded_of_change_and (C:=Tryz.checked) (X:=fun w _=>laidMetH Tryz.prog Rows.fnExactFlowIntoRow.laid w) (fun _ _ _ hh h=>h.of_heap hh) own started (by kernel_rfl) Tryz.func11
  (ChangeSpec.witness_shaped (enc:=enc) (C:=Tryz.checked) (os:=os) (X:=fun w _=>laidMetH Tryz.prog Rows.fnExactFlowIntoRow.laid w) false (World.doorLaid Tryz.prog 62 os) #[.agg #[.slice none 0 0],.slice none 0 0,.int .i64 0] 8 rfl (World.shaped_of_RefB (by kernel_rfl) (by kernel_rfl)) (by kernel_rfl) (by kernel_rfl) (by kernel_rfl) (Xp os _)) ?_
 intro W base args ds gs before amD hW azD Wh hL _
 have awZ:=abL hL
 have I7:∀(j:Nat) t v,Tryz.f11.params[j]? = some t→args[j]? = some v→Value.okWide Tryz.prog W .any base t v:=amD
 have hW':=hW
 obtain⟨p,q,arT,hV,rfl,hfz,hnd⟩:=hW
 have amF:DataW.TrodAll enc Tryz.prog W 0 (fun _=>true) true Tryz.f11.params.toList args.toList ds p:=arT
 have CJ:(DataW.weightsEach Tryz.prog (Tryz.f11.params.toList++Rows.fnExactFlowIntoSpec.plain.varTypes Tryz.prog) (ds++gs)).all (· ≤ reachBytes)=true:=Wh
 rw[Tryz.params11] at amF I7 CJ
 obtain⟨v0,vs0,d0,ds0,p0,q0,wW,rfl,rfl,h0,r0⟩:=trodAll_cons amF
 obtain⟨v1,vs1,d1,ds1,p1,q1,rfl,rfl,rfl,h1,r1⟩:=trodAll_cons r0
 obtain⟨v2,vs2,d2,ds2,p2,q2,rfl,rfl,rfl,h2,r2⟩:=trodAll_cons r1
 obtain⟨rfl,rfl,rfl⟩:=trodAll_nil r2
 obtain rfl:args = #[v0,v1,v2]:=by cases args;simp_all
 obtain⟨rfl,rfl⟩:=trodVars_none hV
 have lt0:∀x∈p0,x.block<W.heap.size:=by obtain⟨m,hm⟩:=h0;exact DataW.trod_lt m _ _ _ hm
 obtain⟨m0,L0,pv0,s0,hI0,hm0,aiE,hT0,Xc⟩:=Sn h0 (I7 0 _ _ rfl rfl) In.empty
 have lt1:∀x∈p1,x.block<W.heap.size:=by obtain⟨m,hm⟩:=h1;exact DataW.trod_lt m _ _ _ hm
 obtain⟨m1,L1,pv1,s1,hI1,Kc,aqP,hT1,hg1⟩:=Va h1 (I7 1 _ _ rfl rfl) hI0
 have hT0:=hT0.grow (L:=L1)
 have aiE:=aiE.mono Kc
 obtain⟨t2,rfl,rfl,rfl,wf2⟩:=open_int Tryz.underlying2 (I7 2 _ _ rfl rfl) h2
 have hw2:=agH wf2
 obtain⟨v,H',nS,rfl⟩:=(BK s0 s1 t2 Xc hg1).yes rfl (Kv (C6 _) (dG _) rfl) (.cons _ _ _ _ hT0 (.cons _ _ _ _ hT1 (.cons _ _ _ _ (.sc _ rfl) .nil)))
 refine(Xu hI1 (RL.cons aiE (RL.cons aqP (RL.cons (.int _ _) (RL.nil m1)))) nS).mono fun e W' he => ?_
 obtain⟨m',rv,rfl,S9,bel⟩:=he
 cases S9
 exact⟨_,rfl,_,_,_,[],_,[],hW',trodAll_mk1 (shut_bool Tryz.underlying4 _),(trodAll_cons_mk (Below.trod laidOut (by kernel_rfl) (of_decide_eq_true (by kernel_rfl)) h0 bel lt0) (trodAll_cons_mk (Below.trod laidOut (by kernel_rfl) (of_decide_eq_true (by kernel_rfl)) h1 bel lt1) (trodAll_cons_mk (shut_int Tryz.underlying2 wf2) trodAll_mk0))),rfl,bel.frame _,fun h=>by cases h⟩
set_option maxHeartbeats 4000000 in
theorem SC:joinedFacts Tryz.prog 11 Tryz.f11 Rows.fnExactFlowIntoSpec Rows.fnExactFlowIntoRow=true:=by
 unfold joinedFacts
 simp only[Bool.and_eq_true]
 repeat' apply And.intro
 all_goals as_aux_lemma=>kernel_rfl
theorem WD:Rows.FnExactFlowIntoSaid :=
 OpenClaim.holds_of_wide 11 Tryz.f11 rfl rfl rfl rfl rfl rfl rfl ⟨rfl,rfl,rfl,rfl,rfl⟩ rfl rfl rfl rfl rfl (by as_aux_lemma=>kernel_rfl) Tryz.func11 SC
  (of_decide_eq_true (by as_aux_lemma=>kernel_rfl)) (by unfold Func.isWrapper;first | (rw[if_pos (by decide +kernel)];as_aux_lemma=>kernel_rfl) | (rw[if_neg (by decide +kernel)];exact⟨rfl,rfl⟩))
  (fun os started T enc _=>lifted os started T enc)
end Go.Proofs.YtodamlihdkalfaaGreatDoor