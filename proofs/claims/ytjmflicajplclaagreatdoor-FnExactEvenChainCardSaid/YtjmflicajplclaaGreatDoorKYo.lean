/- Texts of a claim, in one: part 15. -/
import Derived.Test.YtjmflicajplclaaGreatDoorCards
import Derived.Test.YtjmflicajplclaaGreatDoorTie
import Derived.SevenTiedAt
import Derived.Test.YtjmflicajplclaaGreatDoorKYn
set_option linter.unusedSimpArgs false
set_option linter.unusedVariables false
namespace Go.Proofs.YtjmflicajplclaaGreatDoor
open Go.ChangeShapes Go.WideShapes Go.ChangeAt Go.RowKit Go.PM
theorem adZ (os:Os) (args:Array Value):laidMetH Tryz.prog Rows.fnExactEvenChainRow.laid ((World.doorLaid Tryz.prog 62 os).forCall (fun _ _=>0) ⟨#[],args,[]⟩).memory:=by
 rw[MakeChecks.laidMetH_plain _ _ _ (by kernel_rfl)]
 exact laidMet_of_run' 8 (by kernel_rfl) (by kernel_rfl)
theorem aiT {W:World} (h:laidMetH Tryz.prog Rows.fnExactEvenChainRow.laid W):Q8 W :=
 MH h (by kernel_rfl) (by first | exact .tail _ (.tail _ (.head _)) | exact .head _ | exact .tail _ (.head _)) (t:=281) (e:=171) (n:=20) (by kernel_rfl) (by kernel_rfl) (by kernel_rfl) (by kernel_rfl) (by kernel_rfl)
set_option maxRecDepth 100000 in
theorem lifted (os:Os) (started:os.Started) (T:Type) (enc:TypeId×Value→T) :
  ReturnsInHanded {} Tryz.checked os 4 .any (fun w args=>(Rows.fnExactEvenChainSpec.pre enc Tryz.prog Tryz.f4 [] false w args∧laidMetH Tryz.prog Rows.fnExactEvenChainRow.laid w)∧sizedMet enc Tryz.prog Tryz.f4 (OpenSpec.ofChange Rows.fnExactEvenChainSpec) false w args) (Rows.fnExactEvenChainSpec.post enc Tryz.prog Tryz.f4 false true false false):=by
 refine returnsInHanded_of_change_and (C:=Tryz.checked) (X:=fun w _=>laidMetH Tryz.prog Rows.fnExactEvenChainRow.laid w) (fun _ _ _ hh h=>h.of_heap hh) own started (by kernel_rfl) Tryz.func4
  (ChangeSpec.witness_shaped (enc:=enc) (C:=Tryz.checked) (os:=os) (X:=fun w _=>laidMetH Tryz.prog Rows.fnExactEvenChainRow.laid w) false (World.doorLaid Tryz.prog 62 os) #[.agg #[.slice none 0 0,.slice none 0 0]] 8 rfl (World.shaped_of_RefB (by kernel_rfl) (by kernel_rfl)) (by kernel_rfl) (by kernel_rfl) (by kernel_rfl) (adZ os _)) ?_
 intro W base args ds gs before atG hW aEc adY hL _
 have aB8:=aiT hL
 have uU:∀(j:Nat) t v,Tryz.f4.params[j]? = some t→args[j]? = some v→Value.okWide Tryz.prog W .any base t v:=atG
 have hW':=hW
 obtain⟨p,q,azX,hV,rfl,W3,hnd⟩:=hW
 have avP:DataW.TrodAll enc Tryz.prog W 0 (fun _=>true) true Tryz.f4.params.toList args.toList ds p:=azX
 have Dj:(DataW.weightsEach Tryz.prog (Tryz.f4.params.toList++Rows.fnExactEvenChainSpec.plain.varTypes Tryz.prog) (ds++gs)).all (· ≤ reachBytes)=true:=adY
 rw[Tryz.params4] at avP uU Dj
 obtain⟨v0,vs0,d0,ds0,p0,q0,yK,rfl,rfl,h0,r0⟩:=trodAll_cons avP
 obtain⟨rfl,rfl,rfl⟩:=trodAll_nil r0
 obtain rfl:args = #[v0]:=by cases args;simp_all
 obtain⟨rfl,rfl⟩:=trodVars_none hV
 have lt0:∀x∈p0,x.block<W.heap.size:=by obtain⟨m,hm⟩:=h0;exact DataW.trod_lt m _ _ _ hm
 obtain⟨m0,L0,pv0,s0,hI0,hm0,aBa,hT0,hg0⟩:=YN h0 (uU 0 _ _ rfl rfl) In.empty
 obtain⟨v,H',oN,rfl⟩:=(BJ s0 hg0).yes rfl (Gp (Ny _)) (.cons _ _ _ _ hT0 .nil)
 refine(abR hI0 (RL.cons aBa (RL.nil m0)) oN).mono fun e W' he => ?_
 obtain⟨m',rv,rfl,Va,bel⟩:=he
 cases Va
 exact⟨_,rfl,_,_,_,[],_,[],hW',trodAll_mk1 (shut_bool Tryz.underlying4 _),(trodAll_cons_mk (Below.trod laidOut (by kernel_rfl) (of_decide_eq_true (by kernel_rfl)) h0 bel lt0) trodAll_mk0),rfl,bel.frame _,fun h=>by cases h⟩
set_option maxHeartbeats 4000000 in
theorem V9:joinedFacts Tryz.prog 4 Tryz.f4 Rows.fnExactEvenChainSpec Rows.fnExactEvenChainRow=true:=by
 unfold joinedFacts
 simp only[Bool.and_eq_true]
 repeat' apply And.intro
 all_goals as_aux_lemma=>kernel_rfl
theorem Zb:Rows.FnExactEvenChainSaid :=
 OpenClaim.holds_of_wide 4 Tryz.f4 rfl rfl rfl rfl rfl rfl rfl ⟨rfl,rfl,rfl,rfl,rfl⟩ rfl rfl rfl rfl rfl (by as_aux_lemma=>kernel_rfl) Tryz.func4 V9
  (of_decide_eq_true (by as_aux_lemma=>kernel_rfl)) (by unfold Func.isWrapper;first | (rw[if_pos (by decide +kernel)];as_aux_lemma=>kernel_rfl) | (rw[if_neg (by decide +kernel)];exact⟨rfl,rfl⟩))
  (fun os started T enc _=>lifted os started T enc)
end Go.Proofs.YtjmflicajplclaaGreatDoor