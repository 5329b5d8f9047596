/- Texts of a claim, in one: part 16. -/
import Derived.Test.YtjmflicajplclaaGreatDoorCards
import Derived.Test.YtjmflicajplclaaGreatDoorTie
import Derived.SevenTiedAt
import Derived.Test.YtjmflicajplclaaGreatDoorKEo
set_option linter.unusedSimpArgs false
set_option linter.unusedVariables false
namespace Go.Proofs.YtjmflicajplclaaGreatDoor
open Go.ChangeShapes Go.WideShapes Go.ChangeAt Go.RowKit Go.PM
theorem aiM (os:Os) (args:Array Value):laidMetH Tryz.prog Rows.fnExactFirstChanceRow.laid ((World.doorLaid Tryz.prog 62 os).forCall (fun _ _=>0) ⟨#[],args,[]⟩).memory:=by
 rw[MakeChecks.laidMetH_plain _ _ _ (by kernel_rfl)]
 exact laidMet_of_run' 8 (by kernel_rfl) (by kernel_rfl)
theorem apZ {W:World} (h:laidMetH Tryz.prog Rows.fnExactFirstChanceRow.laid W):Sp W :=
 N4 h (by kernel_rfl) (by first | exact .tail _ (.tail _ (.head _)) | exact .head _ | exact .tail _ (.head _)) (t:=281) (e:=171) (n:=20) (by kernel_rfl) (by kernel_rfl) (by kernel_rfl) (by kernel_rfl) (by kernel_rfl)
set_option maxRecDepth 100000 in
theorem lifted (os:Os) (started:os.Started) (T:Type) (enc:TypeId×Value→T) :
  ReturnsInHanded {} Tryz.checked os 14 .any (fun w args=>(Rows.fnExactFirstChanceSpec.pre enc Tryz.prog Tryz.f14 [] false w args∧laidMetH Tryz.prog Rows.fnExactFirstChanceRow.laid w)∧sizedMet enc Tryz.prog Tryz.f14 (OpenSpec.ofChange Rows.fnExactFirstChanceSpec) false w args) (Rows.fnExactFirstChanceSpec.post enc Tryz.prog Tryz.f14 false true false false):=by
 refine returnsInHanded_of_change_and (C:=Tryz.checked) (X:=fun w _=>laidMetH Tryz.prog Rows.fnExactFirstChanceRow.laid w) (fun _ _ _ hh h=>h.of_heap hh) own started (by kernel_rfl) Tryz.func14
  (ChangeSpec.witness_shaped (enc:=enc) (C:=Tryz.checked) (os:=os) (X:=fun w _=>laidMetH Tryz.prog Rows.fnExactFirstChanceRow.laid w) false (World.doorLaid Tryz.prog 62 os) #[.agg #[.slice none 0 0,.slice none 0 0,.slice none 0 0],.agg #[.slice none 0 0,.slice none 0 0,.slice none 0 0]] 8 rfl (World.shaped_of_RefB (by kernel_rfl) (by kernel_rfl)) (by kernel_rfl) (by kernel_rfl) (by kernel_rfl) (aiM os _)) ?_
 intro W base args ds gs before aBB hW aH2 YO hL _
 have aGE:=apZ hL
 have Cw:∀(j:Nat) t v,Tryz.f14.params[j]? = some t→args[j]? = some v→Value.okWide Tryz.prog W .any base t v:=aBB
 have hW':=hW
 obtain⟨p,q,aD7,hV,rfl,hfz,hnd⟩:=hW
 have aCa:DataW.TrodAll enc Tryz.prog W 0 (fun _=>true) true Tryz.f14.params.toList args.toList ds p:=aD7
 have EX:(DataW.weightsEach Tryz.prog (Tryz.f14.params.toList++Rows.fnExactFirstChanceSpec.plain.varTypes Tryz.prog) (ds++gs)).all (· ≤ reachBytes)=true:=YO
 rw[Tryz.params14] at aCa Cw EX
 obtain⟨v0,vs0,d0,ds0,p0,q0,AY,rfl,rfl,h0,r0⟩:=trodAll_cons aCa
 obtain⟨v1,vs1,d1,ds1,p1,q1,rfl,rfl,rfl,h1,r1⟩:=trodAll_cons r0
 obtain⟨rfl,rfl,rfl⟩:=trodAll_nil r1
 obtain rfl:args = #[v0,v1]:=by cases args;simp_all
 obtain⟨rfl,rfl⟩:=trodVars_none hV
 have lt0:∀x∈p0,x.block<W.heap.size:=by obtain⟨m,hm⟩:=h0;exact DataW.trod_lt m _ _ _ hm
 obtain⟨m0,L0,pv0,s0,hI0,hm0,ayL,hT0,hg0⟩:=Uf h0 (Cw 0 _ _ rfl rfl) In.empty
 have lt1:∀x∈p1,x.block<W.heap.size:=by obtain⟨m,hm⟩:=h1;exact DataW.trod_lt m _ _ _ hm
 obtain⟨m1,L1,pv1,s1,hI1,Oj,aEf,hT1,Xm⟩:=Uf h1 (Cw 1 _ _ rfl rfl) hI0
 have hT0:=hT0.grow (L:=L1)
 have ayL:=ayL.mono Oj
 obtain⟨v,H',qO,rfl⟩:=(B0 s0 s1 hg0 Xm).yes rfl (CE (jN _) (jN _)) (.cons _ _ _ _ hT0 (.cons _ _ _ _ hT1 .nil))
 refine(ahO hI1 (RL.cons ayL (RL.cons aEf (RL.nil m1))) qO).mono fun e W' he => ?_
 obtain⟨m',rv,rfl,Yy,bel⟩:=he
 cases Yy
 exact⟨_,rfl,_,_,_,[],_,[],hW',trodAll_mk1 (shut_bool Tryz.underlying4 _),(trodAll_cons_mk (Below.trod laidOut (by kernel_rfl) (of_decide_eq_true (by kernel_rfl)) h0 bel lt0) (trodAll_cons_mk (Below.trod laidOut (by kernel_rfl) (of_decide_eq_true (by kernel_rfl)) h1 bel lt1) trodAll_mk0)),rfl,bel.frame _,fun h=>by cases h⟩
set_option maxHeartbeats 4000000 in
theorem Xt:joinedFacts Tryz.prog 14 Tryz.f14 Rows.fnExactFirstChanceSpec Rows.fnExactFirstChanceRow=true:=by
 unfold joinedFacts
 simp only[Bool.and_eq_true]
 repeat' apply And.intro
 all_goals as_aux_lemma=>kernel_rfl
theorem afA:Rows.FnExactFirstChanceSaid :=
 OpenClaim.holds_of_wide 14 Tryz.f14 rfl rfl rfl rfl rfl rfl rfl ⟨rfl,rfl,rfl,rfl,rfl⟩ rfl rfl rfl rfl rfl (by as_aux_lemma=>kernel_rfl) Tryz.func14 Xt
  (of_decide_eq_true (by as_aux_lemma=>kernel_rfl)) (by unfold Func.isWrapper;first | (rw[if_pos (by decide +kernel)];as_aux_lemma=>kernel_rfl) | (rw[if_neg (by decide +kernel)];exact⟨rfl,rfl⟩))
  (fun os started T enc _=>lifted os started T enc)
end Go.Proofs.YtjmflicajplclaaGreatDoor