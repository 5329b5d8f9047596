/- Texts of a claim, in one: part 13. -/
import Derived.Test.YtodamlihdkalfaaGreatDoorCards
import Derived.Test.YtodamlihdkalfaaGreatDoorTie
import Derived.SevenTiedAt
import Derived.Test.YtodamlihdkalfaaGreatDoorKWl
set_option linter.unusedSimpArgs false
set_option linter.unusedVariables false
namespace Go.Proofs.YtodamlihdkalfaaGreatDoor
open Go.ChangeShapes Go.WideShapes Go.ChangeAt Go.RowKit Go.PM
theorem YR (os:Os) (args:Array Value):laidMetH Tryz.prog Rows.fnExactValidServiceRow.laid ((World.doorLaid Tryz.prog 62 os).forCall (fun _ _=>0) ⟨#[],args,[]⟩).memory:=by
 rw[MakeChecks.laidMetH_plain _ _ _ (by kernel_rfl)]
 exact laidMet_of_run' 8 (by kernel_rfl) (by kernel_rfl)
theorem Zu {W:World} (h:laidMetH Tryz.prog Rows.fnExactValidServiceRow.laid W):Nw W :=
 Ka h (by kernel_rfl) (by first | exact .tail _ (.tail _ (.head _)) | exact .head _ | exact .tail _ (.head _)) (t:=291) (e:=128) (n:=20) (by kernel_rfl) (by kernel_rfl) (by kernel_rfl) (by kernel_rfl) (by kernel_rfl)
set_option maxRecDepth 100000 in
theorem lifted (os:Os) (started:os.Started) (T:Type) (enc:TypeId×Value→T) :
  ReturnsInHanded {} Tryz.checked os 3 .any (fun w args=>(Rows.fnExactValidServiceSpec.pre enc Tryz.prog Tryz.f3 [] false w args∧laidMetH Tryz.prog Rows.fnExactValidServiceRow.laid w)∧sizedMet enc Tryz.prog Tryz.f3 (OpenSpec.ofChange Rows.fnExactValidServiceSpec) false w args) (Rows.fnExactValidServiceSpec.post enc Tryz.prog Tryz.f3 false true false false):=by
 refine returnsInHanded_of_change_and (C:=Tryz.checked) (X:=fun w _=>laidMetH Tryz.prog Rows.fnExactValidServiceRow.laid w) (fun _ _ _ hh h=>h.of_heap hh) own started (by kernel_rfl) Tryz.func3
  (ChangeSpec.witness_shaped (enc:=enc) (C:=Tryz.checked) (os:=os) (X:=fun w _=>laidMetH Tryz.prog Rows.fnExactValidServiceRow.laid w) false (World.doorLaid Tryz.prog 62 os) #[.agg #[.slice none 0 0,.slice none 0 0,.slice none 0 0]] 8 rfl (World.shaped_of_RefB (by kernel_rfl) (by kernel_rfl)) (by kernel_rfl) (by kernel_rfl) (by kernel_rfl) (YR os _)) ?_
 intro W base args ds gs before alA hW awR Va hL _
 have asR:=Zu hL
 have DK:∀(j:Nat) t v,Tryz.f3.params[j]? = some t→args[j]? = some v→Value.okWide Tryz.prog W .any base t v:=alA
 have hW':=hW
 obtain⟨p,q,anN,hV,rfl,Zy,hnd⟩:=hW
 have ahJ:DataW.TrodAll enc Tryz.prog W 0 (fun _=>true) true Tryz.f3.params.toList args.toList ds p:=anN
 have CO:(DataW.weightsEach Tryz.prog (Tryz.f3.params.toList++Rows.fnExactValidServiceSpec.plain.varTypes Tryz.prog) (ds++gs)).all (· ≤ reachBytes)=true:=Va
 rw[Tryz.params3] at ahJ DK CO
 obtain⟨v0,vs0,d0,ds0,p0,q0,xH,rfl,rfl,h0,r0⟩:=trodAll_cons ahJ
 obtain⟨rfl,rfl,rfl⟩:=trodAll_nil r0
 obtain rfl:args = #[v0]:=by cases args;simp_all
 obtain⟨rfl,rfl⟩:=trodVars_none hV
 have lt0:∀x∈p0,x.block<W.heap.size:=by obtain⟨m,hm⟩:=h0;exact DataW.trod_lt m _ _ _ hm
 obtain⟨m0,L0,pv0,s0,hI0,ZV,apC,hT0,V4⟩:=V8 h0 (DK 0 _ _ rfl rfl) In.empty
 obtain⟨v,H',nU,rfl⟩:=(xW s0 V4).yes rfl (Bk (qH _)) (.cons _ _ _ _ hT0 .nil)
 refine(XE hI0 (RL.cons apC (RL.nil m0)) nU).mono fun e W' he => ?_
 obtain⟨m',rv,rfl,R9,bel⟩:=he
 cases R9
 exact⟨_,rfl,_,_,_,[],_,[],hW',trodAll_mk1 (shut_bool Tryz.underlying4 _),(trodAll_cons_mk (Below.trod laidOut (by kernel_rfl) (of_decide_eq_true (by kernel_rfl)) h0 bel lt0) trodAll_mk0),rfl,bel.frame _,fun h=>by cases h⟩
set_option maxHeartbeats 4000000 in
theorem Rz:joinedFacts Tryz.prog 3 Tryz.f3 Rows.fnExactValidServiceSpec Rows.fnExactValidServiceRow=true:=by
 unfold joinedFacts
 simp only[Bool.and_eq_true]
 repeat' apply And.intro
 all_goals as_aux_lemma=>kernel_rfl
theorem Vb:Rows.FnExactValidServiceSaid :=
 OpenClaim.holds_of_wide 3 Tryz.f3 rfl rfl rfl rfl rfl rfl rfl ⟨rfl,rfl,rfl,rfl,rfl⟩ rfl rfl rfl rfl rfl (by as_aux_lemma=>kernel_rfl) Tryz.func3 Rz
  (of_decide_eq_true (by as_aux_lemma=>kernel_rfl)) (by unfold Func.isWrapper;first | (rw[if_pos (by decide +kernel)];as_aux_lemma=>kernel_rfl) | (rw[if_neg (by decide +kernel)];exact⟨rfl,rfl⟩))
  (fun os started T enc _=>lifted os started T enc)
end Go.Proofs.YtodamlihdkalfaaGreatDoor