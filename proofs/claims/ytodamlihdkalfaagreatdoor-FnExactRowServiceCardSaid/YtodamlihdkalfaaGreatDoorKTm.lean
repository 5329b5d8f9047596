/- Texts of a claim, in one: part 13. -/
import Derived.Test.YtodamlihdkalfaaGreatDoorCards
import Derived.Test.YtodamlihdkalfaaGreatDoorTie
import Derived.SevenTiedAt
import Derived.Test.YtodamlihdkalfaaGreatDoorKTl
set_option linter.unusedSimpArgs false
set_option linter.unusedVariables false
namespace Go.Proofs.YtodamlihdkalfaaGreatDoor
open Go.ChangeShapes Go.WideShapes Go.ChangeAt Go.RowKit Go.PM
theorem Y9 (os:Os) (args:Array Value):laidMetH Tryz.prog Rows.fnExactRowServiceRow.laid ((World.doorLaid Tryz.prog 62 os).forCall (fun _ _=>0) ⟨#[],args,[]⟩).memory:=by
 rw[MakeChecks.laidMetH_plain _ _ _ (by kernel_rfl)]
 exact laidMet_of_run' 8 (by kernel_rfl) (by kernel_rfl)
theorem abO {W:World} (h:laidMetH Tryz.prog Rows.fnExactRowServiceRow.laid W):My W :=
 JQ h (by kernel_rfl) (by first | exact .tail _ (.tail _ (.head _)) | exact .head _ | exact .tail _ (.head _)) (t:=291) (e:=128) (n:=20) (by kernel_rfl) (by kernel_rfl) (by kernel_rfl) (by kernel_rfl) (by kernel_rfl)
set_option maxRecDepth 100000 in
theorem lifted (os:Os) (started:os.Started) (T:Type) (enc:TypeId×Value→T) :
  ReturnsInHanded {} Tryz.checked os 9 .any (fun w args=>(Rows.fnExactRowServiceSpec.pre enc Tryz.prog Tryz.f9 [] false w args∧laidMetH Tryz.prog Rows.fnExactRowServiceRow.laid w)∧sizedMet enc Tryz.prog Tryz.f9 (OpenSpec.ofChange Rows.fnExactRowServiceSpec) false w args) (Rows.fnExactRowServiceSpec.post enc Tryz.prog Tryz.f9 false true false false):=by
 refine returnsInHanded_of_change_and (C:=Tryz.checked) (X:=fun w _=>laidMetH Tryz.prog Rows.fnExactRowServiceRow.laid w) (fun _ _ _ hh h=>h.of_heap hh) own started (by kernel_rfl) Tryz.func9
  (ChangeSpec.witness_shaped (enc:=enc) (C:=Tryz.checked) (os:=os) (X:=fun w _=>laidMetH Tryz.prog Rows.fnExactRowServiceRow.laid w) false (World.doorLaid Tryz.prog 62 os) #[.slice none 0 0] 8 rfl (World.shaped_of_RefB (by kernel_rfl) (by kernel_rfl)) (by kernel_rfl) (by kernel_rfl) (by kernel_rfl) (Y9 os _)) ?_
 intro W base args ds gs before amV hW axI Xp hL _
 have awO:=abO hL
 have CO:∀(j:Nat) t v,Tryz.f9.params[j]? = some t→args[j]? = some v→Value.okWide Tryz.prog W .any base t v:=amV
 have hW':=hW
 obtain⟨p,q,aqD,hV,rfl,Z5,hnd⟩:=hW
 have ajB:DataW.TrodAll enc Tryz.prog W 0 (fun _=>true) true Tryz.f9.params.toList args.toList ds p:=aqD
 have Bf:(DataW.weightsEach Tryz.prog (Tryz.f9.params.toList++Rows.fnExactRowServiceSpec.plain.varTypes Tryz.prog) (ds++gs)).all (· ≤ reachBytes)=true:=Xp
 rw[Tryz.params9] at ajB CO Bf
 obtain⟨v0,vs0,d0,ds0,p0,q0,vK,rfl,rfl,h0,r0⟩:=trodAll_cons ajB
 obtain⟨rfl,rfl,rfl⟩:=trodAll_nil r0
 obtain rfl:args = #[v0]:=by cases args;simp_all
 obtain⟨rfl,rfl⟩:=trodVars_none hV
 have lt0:∀x∈p0,x.block<W.heap.size:=by obtain⟨m,hm⟩:=h0;exact DataW.trod_lt m _ _ _ hm
 obtain⟨m0,L0,pv0,s0,hI0,Z3,atG,hT0,hg0⟩:=UB h0 (CO 0 _ _ rfl rfl) In.empty
 obtain⟨v,H',mA,rfl⟩:=(yD s0 hg0).yes rfl (Mv (gF _)) (.cons _ _ _ _ hT0 .nil)
 refine(XY hI0 (RL.cons atG (RL.nil m0)) mA).mono fun e W' he => ?_
 obtain⟨m',rv,rfl,QK,bel⟩:=he
 cases QK
 exact⟨_,rfl,_,_,_,[],_,[],hW',trodAll_mk1 (shut_bool Tryz.underlying4 _),(trodAll_cons_mk (Below.trod laidOut (by kernel_rfl) (of_decide_eq_true (by kernel_rfl)) h0 bel lt0) trodAll_mk0),rfl,bel.frame _,fun h=>by cases h⟩
set_option maxHeartbeats 4000000 in
theorem RD:joinedFacts Tryz.prog 9 Tryz.f9 Rows.fnExactRowServiceSpec Rows.fnExactRowServiceRow=true:=by
 unfold joinedFacts
 simp only[Bool.and_eq_true]
 repeat' apply And.intro
 all_goals as_aux_lemma=>kernel_rfl
theorem VC:Rows.FnExactRowServiceSaid :=
 OpenClaim.holds_of_wide 9 Tryz.f9 rfl rfl rfl rfl rfl rfl rfl ⟨rfl,rfl,rfl,rfl,rfl⟩ rfl rfl rfl rfl rfl (by as_aux_lemma=>kernel_rfl) Tryz.func9 RD
  (of_decide_eq_true (by as_aux_lemma=>kernel_rfl)) (by unfold Func.isWrapper;first | (rw[if_pos (by decide +kernel)];as_aux_lemma=>kernel_rfl) | (rw[if_neg (by decide +kernel)];exact⟨rfl,rfl⟩))
  (fun os started T enc _=>lifted os started T enc)
end Go.Proofs.YtodamlihdkalfaaGreatDoor