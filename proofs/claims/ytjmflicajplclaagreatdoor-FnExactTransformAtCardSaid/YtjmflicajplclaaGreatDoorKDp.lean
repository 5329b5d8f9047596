/- Texts of a claim, in one: part 16. -/
import Derived.Test.YtjmflicajplclaaGreatDoorCards
import Derived.Test.YtjmflicajplclaaGreatDoorTie
import Derived.SevenTiedAt
import Derived.Test.YtjmflicajplclaaGreatDoorKDo
set_option linter.unusedSimpArgs false
set_option linter.unusedVariables false
namespace Go.Proofs.YtjmflicajplclaaGreatDoor
open Go.ChangeShapes Go.WideShapes Go.ChangeAt Go.RowKit Go.PM
theorem ajB (os:Os) (args:Array Value):laidMetH Tryz.prog Rows.fnExactTransformAtRow.laid ((World.doorLaid Tryz.prog 62 os).forCall (fun _ _=>0) ⟨#[],args,[]⟩).memory:=by
 rw[MakeChecks.laidMetH_plain _ _ _ (by kernel_rfl)]
 exact laidMet_of_run' 8 (by kernel_rfl) (by kernel_rfl)
theorem arD {W:World} (h:laidMetH Tryz.prog Rows.fnExactTransformAtRow.laid W):SH W :=
 PO h (by kernel_rfl) (by first | exact .tail _ (.tail _ (.head _)) | exact .head _ | exact .tail _ (.head _)) (t:=281) (e:=171) (n:=20) (by kernel_rfl) (by kernel_rfl) (by kernel_rfl) (by kernel_rfl) (by kernel_rfl)
set_option maxRecDepth 100000 in
theorem lifted (os:Os) (started:os.Started) (T:Type) (enc:TypeId×Value→T) :
  ReturnsInHanded {} Tryz.checked os 10 .any (fun w args=>(Rows.fnExactTransformAtSpec.pre enc Tryz.prog Tryz.f10 [] false w args∧laidMetH Tryz.prog Rows.fnExactTransformAtRow.laid w)∧sizedMet enc Tryz.prog Tryz.f10 (OpenSpec.ofChange Rows.fnExactTransformAtSpec) false w args) (Rows.fnExactTransformAtSpec.post enc Tryz.prog Tryz.f10 false true false false):=by
 refine returnsInHanded_of_change_and (C:=Tryz.checked) (X:=fun w _=>laidMetH Tryz.prog Rows.fnExactTransformAtRow.laid w) (fun _ _ _ hh h=>h.of_heap hh) own started (by kernel_rfl) Tryz.func10
  (ChangeSpec.witness_shaped (enc:=enc) (C:=Tryz.checked) (os:=os) (X:=fun w _=>laidMetH Tryz.prog Rows.fnExactTransformAtRow.laid w) false (World.doorLaid Tryz.prog 62 os) #[.agg #[.slice none 0 0,.slice none 0 0,.slice none 0 0],.string ⟨#[]⟩] 8 rfl (World.shaped_of_RefB (by kernel_rfl) (by kernel_rfl)) (by kernel_rfl) (by kernel_rfl) (by kernel_rfl) (ajB os _)) ?_
 intro W base args ds gs before aBq hW aIY afF hL _
 have aF0:=arD hL
 have EX:∀(j:Nat) t v,Tryz.f10.params[j]? = some t→args[j]? = some v→Value.okWide Tryz.prog W .any base t v:=aBq
 have hW':=hW
 obtain⟨p,q,aC9,hV,rfl,hfz,hnd⟩:=hW
 have aCc:DataW.TrodAll enc Tryz.prog W 0 (fun _=>true) true Tryz.f10.params.toList args.toList ds p:=aC9
 have DO:(DataW.weightsEach Tryz.prog (Tryz.f10.params.toList++Rows.fnExactTransformAtSpec.plain.varTypes Tryz.prog) (ds++gs)).all (· ≤ reachBytes)=true:=afF
 rw[Tryz.params10] at aCc EX DO
 obtain⟨v0,vs0,d0,ds0,p0,q0,AN,rfl,rfl,h0,r0⟩:=trodAll_cons aCc
 obtain⟨v1,vs1,d1,ds1,p1,q1,rfl,rfl,rfl,h1,r1⟩:=trodAll_cons r0
 obtain⟨rfl,rfl,rfl⟩:=trodAll_nil r1
 obtain rfl:args = #[v0,v1]:=by cases args;simp_all
 obtain⟨rfl,rfl⟩:=trodVars_none hV
 have lt0:∀x∈p0,x.block<W.heap.size:=by obtain⟨m,hm⟩:=h0;exact DataW.trod_lt m _ _ _ hm
 obtain⟨m0,L0,pv0,s0,hI0,hm0,aB1,hT0,hg0⟩:=aiV h0 (EX 0 _ _ rfl rfl) In.empty
 have hk0:s0.b.length≤140737488355328:=by obtain⟨d0,dr,c,k1,k2,k3⟩:=aqW (EX 0 _ _ rfl rfl) h0 aB1 hT0;exact Nat.le_trans k2 (asL DO (j:=0) k3 k1 rfl rfl)
 obtain⟨s1,rfl,rfl,rfl,hg1⟩:=adB (EX 1 _ _ rfl rfl) h1
 have hk1:s1.size≤140737488351232:=by have:=sized_string (bytes:=s1.data.toList) DO (j:=1) rfl rfl;rw[Array.length_toList] at this;exact this
 obtain⟨v,H',qO,rfl⟩:=(BL s0 s1 hg0 hk1 hk0).yes rfl (vL (mT _) rfl) (.cons _ _ _ _ hT0 (.cons _ _ _ _ (.sc _ rfl) .nil))
 refine(anU hI0 (RL.cons aB1 (RL.cons (.str _) (RL.nil m0))) qO).mono fun e W' he => ?_
 obtain⟨m',rv,rfl,X1,bel⟩:=he
 cases X1
 exact⟨_,rfl,_,_,_,[],_,[],hW',trodAll_mk1 (shut_bool Tryz.underlying4 _),(trodAll_cons_mk (Below.trod laidOut (by kernel_rfl) (of_decide_eq_true (by kernel_rfl)) h0 bel lt0) (trodAll_cons_mk (Go.ChangeMaps.shut_string Tryz.underlying9 hg1) trodAll_mk0)),rfl,bel.frame _,fun h=>by cases h⟩
set_option maxHeartbeats 4000000 in
theorem XL:joinedFacts Tryz.prog 10 Tryz.f10 Rows.fnExactTransformAtSpec Rows.fnExactTransformAtRow=true:=by
 unfold joinedFacts
 simp only[Bool.and_eq_true]
 repeat' apply And.intro
 all_goals as_aux_lemma=>kernel_rfl
theorem aaT:Rows.FnExactTransformAtSaid :=
 OpenClaim.holds_of_wide 10 Tryz.f10 rfl rfl rfl rfl rfl rfl rfl ⟨rfl,rfl,rfl,rfl,rfl⟩ rfl rfl rfl rfl rfl (by as_aux_lemma=>kernel_rfl) Tryz.func10 XL
  (of_decide_eq_true (by as_aux_lemma=>kernel_rfl)) (by unfold Func.isWrapper;first | (rw[if_pos (by decide +kernel)];as_aux_lemma=>kernel_rfl) | (rw[if_neg (by decide +kernel)];exact⟨rfl,rfl⟩))
  (fun os started T enc _=>lifted os started T enc)
end Go.Proofs.YtjmflicajplclaaGreatDoor