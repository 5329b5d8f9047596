/- Texts of a claim, in one: part 13. -/
import Derived.Test.YtodamlihdkalfaaGreatDoorCards
import Derived.Test.YtodamlihdkalfaaGreatDoorTie
import Derived.SevenTiedAt
import Derived.Test.YtodamlihdkalfaaGreatDoorKVl
set_option linter.unusedSimpArgs false
set_option linter.unusedVariables false
namespace Go.Proofs.YtodamlihdkalfaaGreatDoor
open Go.ChangeShapes Go.WideShapes Go.ChangeAt Go.RowKit Go.PM
theorem Vs (os:Os) (args:Array Value):laidMetH Tryz.prog Rows.fnExactOneServiceRow.laid ((World.doorLaid Tryz.prog 62 os).forCall (fun _ _=>0) ⟨#[],args,[]⟩).memory:=by
 rw[MakeChecks.laidMetH_plain _ _ _ (by kernel_rfl)]
 exact laidMet_of_run' 8 (by kernel_rfl) (by kernel_rfl)
theorem Zb {W:World} (h:laidMetH Tryz.prog Rows.fnExactOneServiceRow.laid W):LR W :=
 Jx h (by kernel_rfl) (by first | exact .tail _ (.tail _ (.head _)) | exact .head _ | exact .tail _ (.head _)) (t:=291) (e:=128) (n:=20) (by kernel_rfl) (by kernel_rfl) (by kernel_rfl) (by kernel_rfl) (by kernel_rfl)
set_option maxRecDepth 100000 in
theorem lifted (os:Os) (started:os.Started) (T:Type) (enc:TypeId×Value→T) :
  ReturnsInHanded {} Tryz.checked os 4 .any (fun w args=>(Rows.fnExactOneServiceSpec.pre enc Tryz.prog Tryz.f4 [] false w args∧laidMetH Tryz.prog Rows.fnExactOneServiceRow.laid w)∧sizedMet enc Tryz.prog Tryz.f4 (OpenSpec.ofChange Rows.fnExactOneServiceSpec) false w args) (Rows.fnExactOneServiceSpec.post enc Tryz.prog Tryz.f4 false true false false):=by
 refine returnsInHanded_of_change_and (C:=Tryz.checked) (X:=fun w _=>laidMetH Tryz.prog Rows.fnExactOneServiceRow.laid w) (fun _ _ _ hh h=>h.of_heap hh) own started (by kernel_rfl) Tryz.func4
  (ChangeSpec.witness_shaped (enc:=enc) (C:=Tryz.checked) (os:=os) (X:=fun w _=>laidMetH Tryz.prog Rows.fnExactOneServiceRow.laid w) false (World.doorLaid Tryz.prog 62 os) #[.string ⟨#[]⟩] 8 rfl (World.shaped_of_RefB (by kernel_rfl) (by kernel_rfl)) (by kernel_rfl) (by kernel_rfl) (by kernel_rfl) (Vs os _)) ?_
 intro W base args ds gs before ahP hW axS aoU hL _
 have asS:=Zb hL
 have Cu:∀(j:Nat) t v,Tryz.f4.params[j]? = some t→args[j]? = some v→Value.okWide Tryz.prog W .any base t v:=ahP
 have hW':=hW
 obtain⟨p,q,aqM,hV,rfl,ZT,hnd⟩:=hW
 have ajD:DataW.TrodAll enc Tryz.prog W 0 (fun _=>true) true Tryz.f4.params.toList args.toList ds p:=aqM
 have A0:(DataW.weightsEach Tryz.prog (Tryz.f4.params.toList++Rows.fnExactOneServiceSpec.plain.varTypes Tryz.prog) (ds++gs)).all (· ≤ reachBytes)=true:=aoU
 rw[Tryz.params4] at ajD Cu A0
 obtain⟨v0,vs0,d0,ds0,p0,q0,uQ,rfl,rfl,h0,r0⟩:=trodAll_cons ajD
 obtain⟨rfl,rfl,rfl⟩:=trodAll_nil r0
 obtain rfl:args = #[v0]:=by cases args;simp_all
 obtain⟨rfl,rfl⟩:=trodVars_none hV
 obtain⟨s0,rfl,rfl,rfl,hg0⟩:=TL (Cu 0 _ _ rfl rfl) h0
 obtain⟨v,H',lR,rfl⟩:=(xF s0 hg0).yes rfl (LH rfl) (.cons _ _ _ _ (.sc _ rfl) .nil)
 refine(Wl In.empty (RL.cons (.str _) (RL.nil _)) lR).mono fun e W' he => ?_
 obtain⟨m',rv,rfl,Rr,bel⟩:=he
 cases Rr
 exact⟨_,rfl,_,_,_,[],_,[],hW',trodAll_mk1 (shut_bool Tryz.underlying4 _),(trodAll_cons_mk (Go.ChangeMaps.shut_string Tryz.underlying9 hg0) trodAll_mk0),rfl,bel.frame _,fun h=>by cases h⟩
set_option maxHeartbeats 4000000 in
theorem P9:joinedFacts Tryz.prog 4 Tryz.f4 Rows.fnExactOneServiceSpec Rows.fnExactOneServiceRow=true:=by
 unfold joinedFacts
 simp only[Bool.and_eq_true]
 repeat' apply And.intro
 all_goals as_aux_lemma=>kernel_rfl
theorem T8:Rows.FnExactOneServiceSaid :=
 OpenClaim.holds_of_wide 4 Tryz.f4 rfl rfl rfl rfl rfl rfl rfl ⟨rfl,rfl,rfl,rfl,rfl⟩ rfl rfl rfl rfl rfl (by as_aux_lemma=>kernel_rfl) Tryz.func4 P9
  (of_decide_eq_true (by as_aux_lemma=>kernel_rfl)) (by unfold Func.isWrapper;first | (rw[if_pos (by decide +kernel)];as_aux_lemma=>kernel_rfl) | (rw[if_neg (by decide +kernel)];exact⟨rfl,rfl⟩))
  (fun os started T enc _=>lifted os started T enc)
end Go.Proofs.YtodamlihdkalfaaGreatDoor