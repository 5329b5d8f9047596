/- Texts of a claim, in one: part 14. -/
import Derived.Test.YtjmflicajplclaaGreatDoorCards
import Derived.Test.YtjmflicajplclaaGreatDoorTie
import Derived.SevenTiedAt
import Derived.Test.YtjmflicajplclaaGreatDoorKXm
set_option linter.unusedSimpArgs false
set_option linter.unusedVariables false
namespace Go.Proofs.YtjmflicajplclaaGreatDoor
open Go.ChangeShapes Go.WideShapes Go.ChangeAt Go.RowKit Go.PM
theorem YJ (os:Os) (args:Array Value):laidMetH Tryz.prog Rows.fnExactEvenRatesRow.laid ((World.doorLaid Tryz.prog 62 os).forCall (fun _ _=>0) ⟨#[],args,[]⟩).memory:=by
 rw[MakeChecks.laidMetH_plain _ _ _ (by kernel_rfl)]
 exact laidMet_of_run' 8 (by kernel_rfl) (by kernel_rfl)
theorem afW {W:World} (h:laidMetH Tryz.prog Rows.fnExactEvenRatesRow.laid W):Qc W :=
 LH h (by kernel_rfl) (by first | exact .tail _ (.tail _ (.head _)) | exact .head _ | exact .tail _ (.head _)) (t:=281) (e:=171) (n:=20) (by kernel_rfl) (by kernel_rfl) (by kernel_rfl) (by kernel_rfl) (by kernel_rfl)
set_option maxRecDepth 100000 in
theorem lifted (os:Os) (started:os.Started) (T:Type) (enc:TypeId×Value→T) :
  ReturnsInHanded {} Tryz.checked os 3 .any (fun w args=>(Rows.fnExactEvenRatesSpec.pre enc Tryz.prog Tryz.f3 [] false w args∧laidMetH Tryz.prog Rows.fnExactEvenRatesRow.laid w)∧sizedMet enc Tryz.prog Tryz.f3 (OpenSpec.ofChange Rows.fnExactEvenRatesSpec) false w args) (Rows.fnExactEvenRatesSpec.post enc Tryz.prog Tryz.f3 false true false false):=by
 refine returnsInHanded_of_change_and (C:=Tryz.checked) (X:=fun w _=>laidMetH Tryz.prog Rows.fnExactEvenRatesRow.laid w) (fun _ _ _ hh h=>h.of_heap hh) own started (by kernel_rfl) Tryz.func3
  (ChangeSpec.witness_shaped (enc:=enc) (C:=Tryz.checked) (os:=os) (X:=fun w _=>laidMetH Tryz.prog Rows.fnExactEvenRatesRow.laid w) false (World.doorLaid Tryz.prog 62 os) #[.slice none 0 0] 8 rfl (World.shaped_of_RefB (by kernel_rfl) (by kernel_rfl)) (by kernel_rfl) (by kernel_rfl) (by kernel_rfl) (YJ os _)) ?_
 intro W base args ds gs before anU hW aBW ZP hL _
 have aAD:=afW hL
 have wU:∀(j:Nat) t v,Tryz.f3.params[j]? = some t→args[j]? = some v→Value.okWide Tryz.prog W .any base t v:=anU
 have hW':=hW
 obtain⟨p,q,avV,hV,rfl,Un,hnd⟩:=hW
 have arQ:DataW.TrodAll enc Tryz.prog W 0 (fun _=>true) true Tryz.f3.params.toList args.toList ds p:=avV
 have C0:(DataW.weightsEach Tryz.prog (Tryz.f3.params.toList++Rows.fnExactEvenRatesSpec.plain.varTypes Tryz.prog) (ds++gs)).all (· ≤ reachBytes)=true:=ZP
 rw[Tryz.params3] at arQ wU C0
 obtain⟨v0,vs0,d0,ds0,p0,q0,zE,rfl,rfl,h0,r0⟩:=trodAll_cons arQ
 obtain⟨rfl,rfl,rfl⟩:=trodAll_nil r0
 obtain rfl:args = #[v0]:=by cases args;simp_all
 obtain⟨rfl,rfl⟩:=trodVars_none hV
 have lt0:∀x∈p0,x.block<W.heap.size:=by obtain⟨m,hm⟩:=h0;exact DataW.trod_lt m _ _ _ hm
 obtain⟨m0,L0,pv0,s0,hI0,hm0,awO,hT0,hg0⟩:=TM h0 (wU 0 _ _ rfl rfl) In.empty
 obtain⟨v,H',oU,rfl⟩:=(Bb s0 hg0).yes rfl (Z5 (lR _)) (.cons _ _ _ _ hT0 .nil)
 refine(aaW hI0 (RL.cons awO (RL.nil m0)) oU).mono fun e W' he => ?_
 obtain⟨m',rv,rfl,TS,bel⟩:=he
 cases TS
 exact⟨_,rfl,_,_,_,[],_,[],hW',trodAll_mk1 (shut_bool Tryz.underlying4 _),(trodAll_cons_mk (Below.trod laidOut (by kernel_rfl) (of_decide_eq_true (by kernel_rfl)) h0 bel lt0) trodAll_mk0),rfl,bel.frame _,fun h=>by cases h⟩
set_option maxHeartbeats 4000000 in
theorem TA:joinedFacts Tryz.prog 3 Tryz.f3 Rows.fnExactEvenRatesSpec Rows.fnExactEvenRatesRow=true:=by
 unfold joinedFacts
 simp only[Bool.and_eq_true]
 repeat' apply And.intro
 all_goals as_aux_lemma=>kernel_rfl
theorem Xe:Rows.FnExactEvenRatesSaid :=
 OpenClaim.holds_of_wide 3 Tryz.f3 rfl rfl rfl rfl rfl rfl rfl ⟨rfl,rfl,rfl,rfl,rfl⟩ rfl rfl rfl rfl rfl (by as_aux_lemma=>kernel_rfl) Tryz.func3 TA
  (of_decide_eq_true (by as_aux_lemma=>kernel_rfl)) (by unfold Func.isWrapper;first | (rw[if_pos (by decide +kernel)];as_aux_lemma=>kernel_rfl) | (rw[if_neg (by decide +kernel)];exact⟨rfl,rfl⟩))
  (fun os started T enc _=>lifted os started T enc)
end Go.Proofs.YtjmflicajplclaaGreatDoor