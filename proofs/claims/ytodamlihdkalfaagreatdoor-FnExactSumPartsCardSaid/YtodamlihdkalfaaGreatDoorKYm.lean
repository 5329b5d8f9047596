/- Texts of a claim, in one: part 13. -/
import Derived.Test.YtodamlihdkalfaaGreatDoorCards
import Derived.Test.YtodamlihdkalfaaGreatDoorTie
import Derived.SevenTiedAt
import Derived.Test.YtodamlihdkalfaaGreatDoorKYl
set_option linter.unusedSimpArgs false
set_option linter.unusedVariables false
namespace Go.Proofs.YtodamlihdkalfaaGreatDoor
open Go.ChangeShapes Go.WideShapes Go.ChangeAt Go.RowKit Go.PM
theorem Xu (os:Os) (args:Array Value):laidMetH Tryz.prog Rows.fnExactSumPartsRow.laid ((World.doorLaid Tryz.prog 62 os).forCall (fun _ _=>0) ⟨#[],args,[]⟩).memory:=by
 rw[MakeChecks.laidMetH_plain _ _ _ (by kernel_rfl)]
 exact laidMet_of_run' 8 (by kernel_rfl) (by kernel_rfl)
theorem abS {W:World} (h:laidMetH Tryz.prog Rows.fnExactSumPartsRow.laid W):Nh W :=
 I8 h (by kernel_rfl) (by first | exact .tail _ (.tail _ (.head _)) | exact .head _ | exact .tail _ (.head _)) (t:=291) (e:=128) (n:=20) (by kernel_rfl) (by kernel_rfl) (by kernel_rfl) (by kernel_rfl) (by kernel_rfl)
set_option maxRecDepth 100000 in
theorem lifted (os:Os) (started:os.Started) (T:Type) (enc:TypeId×Value→T) :
  ReturnsInHanded {} Tryz.checked os 10 .any (fun w args=>(Rows.fnExactSumPartsSpec.pre enc Tryz.prog Tryz.f10 [] false w args∧laidMetH Tryz.prog Rows.fnExactSumPartsRow.laid w)∧sizedMet enc Tryz.prog Tryz.f10 (OpenSpec.ofChange Rows.fnExactSumPartsSpec) false w args) (Rows.fnExactSumPartsSpec.post enc Tryz.prog Tryz.f10 false true false false):=by
 refine returnsInHanded_of_change_and (C:=Tryz.checked) (X:=fun w _=>laidMetH Tryz.prog Rows.fnExactSumPartsRow.laid w) (fun _ _ _ hh h=>h.of_heap hh) own started (by kernel_rfl) Tryz.func10
  (ChangeSpec.witness_shaped (enc:=enc) (C:=Tryz.checked) (os:=os) (X:=fun w _=>laidMetH Tryz.prog Rows.fnExactSumPartsRow.laid w) false (World.doorLaid Tryz.prog 62 os) #[.slice none 0 0,.slice none 0 0] 8 rfl (World.shaped_of_RefB (by kernel_rfl) (by kernel_rfl)) (by kernel_rfl) (by kernel_rfl) (by kernel_rfl) (Xu os _)) ?_
 intro W base args ds gs before ajO hW ayA RB hL _
 have auG:=abS hL
 have BI:∀(j:Nat) t v,Tryz.f10.params[j]? = some t→args[j]? = some v→Value.okWide Tryz.prog W .any base t v:=ajO
 have hW':=hW
 obtain⟨p,q,apX,hV,rfl,Ue,hnd⟩:=hW
 have alC:DataW.TrodAll enc Tryz.prog W 0 (fun _=>true) true Tryz.f10.params.toList args.toList ds p:=apX
 have A3:(DataW.weightsEach Tryz.prog (Tryz.f10.params.toList++Rows.fnExactSumPartsSpec.plain.varTypes Tryz.prog) (ds++gs)).all (· ≤ reachBytes)=true:=RB
 rw[Tryz.params10] at alC BI A3
 obtain⟨v0,vs0,d0,ds0,p0,q0,xA,rfl,rfl,h0,r0⟩:=trodAll_cons alC
 obtain⟨v1,vs1,d1,ds1,p1,q1,rfl,rfl,rfl,h1,r1⟩:=trodAll_cons r0
 obtain⟨rfl,rfl,rfl⟩:=trodAll_nil r1
 obtain rfl:args = #[v0,v1]:=by cases args;simp_all
 obtain⟨rfl,rfl⟩:=trodVars_none hV
 have lt0:∀x∈p0,x.block<W.heap.size:=by obtain⟨m,hm⟩:=h0;exact DataW.trod_lt m _ _ _ hm
 obtain⟨m0,L0,pv0,s0,hI0,Xx,acD,hT0,hg0⟩:=UI h0 (BI 0 _ _ rfl rfl) In.empty
 have V7:s0.length≤140737488355328:=by obtain⟨c,k1,k2⟩:=PJ Tryz.underlying22 (BI 0 _ _ rfl rfl) h0 acD hT0;exact Nat.le_trans k1 (YP A3 (j:=0) k2 rfl rfl Tryz.underlying22 (by kernel_rfl))
 have lt1:∀x∈p1,x.block<W.heap.size:=by obtain⟨m,hm⟩:=h1;exact DataW.trod_lt m _ _ _ hm
 obtain⟨m1,L1,pv1,s1,hI1,IF,akL,hT1,hg1⟩:=Ws h1 (BI 1 _ _ rfl rfl) hI0
 have hT0:=hT0.grow (L:=L1)
 have acD:=acD.mono IF
 have hk1:s1.length≤140737488355328:=by obtain⟨c,k1,k2⟩:=PJ Tryz.underlying61 (BI 1 _ _ rfl rfl) h1 akL hT1;exact Nat.le_trans k1 (YP A3 (j:=1) k2 rfl rfl Tryz.underlying61 (by kernel_rfl))
 obtain⟨v,H',mF,rfl⟩:=(AU s0 s1 hg0 V7 hk1).yes rfl (GM (dF _) (C1 _)) (.cons _ _ _ _ hT0 (.cons _ _ _ _ hT1 .nil))
 refine(Zf hI1 (RL.cons acD (RL.cons akL (RL.nil m1))) mF).mono fun e W' he => ?_
 obtain⟨m',rv,rfl,Rh,bel⟩:=he
 cases Rh
 exact⟨_,rfl,_,_,_,[],_,[],hW',trodAll_mk1 (shut_bool Tryz.underlying4 _),(trodAll_cons_mk (Below.trod laidOut (by kernel_rfl) (of_decide_eq_true (by kernel_rfl)) h0 bel lt0) (trodAll_cons_mk (Below.trod laidOut (by kernel_rfl) (of_decide_eq_true (by kernel_rfl)) h1 bel lt1) trodAll_mk0)),rfl,bel.frame _,fun h=>by cases h⟩
set_option maxHeartbeats 4000000 in
theorem RS:joinedFacts Tryz.prog 10 Tryz.f10 Rows.fnExactSumPartsSpec Rows.fnExactSumPartsRow=true:=by
 unfold joinedFacts
 simp only[Bool.and_eq_true]
 repeat' apply And.intro
 all_goals as_aux_lemma=>kernel_rfl
theorem We:Rows.FnExactSumPartsSaid :=
 OpenClaim.holds_of_wide 10 Tryz.f10 rfl rfl rfl rfl rfl rfl rfl ⟨rfl,rfl,rfl,rfl,rfl⟩ rfl rfl rfl rfl rfl (by as_aux_lemma=>kernel_rfl) Tryz.func10 RS
  (of_decide_eq_true (by as_aux_lemma=>kernel_rfl)) (by unfold Func.isWrapper;first | (rw[if_pos (by decide +kernel)];as_aux_lemma=>kernel_rfl) | (rw[if_neg (by decide +kernel)];exact⟨rfl,rfl⟩))
  (fun os started T enc _=>lifted os started T enc)
end Go.Proofs.YtodamlihdkalfaaGreatDoor