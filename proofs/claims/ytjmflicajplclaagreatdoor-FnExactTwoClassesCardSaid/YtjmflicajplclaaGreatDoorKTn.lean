/- Texts of a claim, in one: part 14. -/
import Derived.Test.YtjmflicajplclaaGreatDoorCards
import Derived.Test.YtjmflicajplclaaGreatDoorTie
import Derived.SevenTiedAt
import Derived.Test.YtjmflicajplclaaGreatDoorKTm
set_option linter.unusedSimpArgs false
set_option linter.unusedVariables false
namespace Go.Proofs.YtjmflicajplclaaGreatDoor
open Go.ChangeShapes Go.WideShapes Go.ChangeAt Go.RowKit Go.PM
theorem ZT (os:Os) (args:Array Value):laidMetH Tryz.prog Rows.fnExactTwoClassesRow.laid ((World.doorLaid Tryz.prog 62 os).forCall (fun _ _=>0) ⟨#[],args,[]⟩).memory:=by
 rw[MakeChecks.laidMetH_plain _ _ _ (by kernel_rfl)]
 exact laidMet_of_run' 8 (by kernel_rfl) (by kernel_rfl)
theorem afL {W:World} (h:laidMetH Tryz.prog Rows.fnExactTwoClassesRow.laid W):Ps W :=
 Mr h (by kernel_rfl) (by first | exact .tail _ (.tail _ (.head _)) | exact .head _ | exact .tail _ (.head _)) (t:=281) (e:=171) (n:=20) (by kernel_rfl) (by kernel_rfl) (by kernel_rfl) (by kernel_rfl) (by kernel_rfl)
set_option maxRecDepth 100000 in
theorem lifted (os:Os) (started:os.Started) (T:Type) (enc:TypeId×Value→T) :
  ReturnsInHanded {} Tryz.checked os 8 .any (fun w args=>(Rows.fnExactTwoClassesSpec.pre enc Tryz.prog Tryz.f8 [] false w args∧laidMetH Tryz.prog Rows.fnExactTwoClassesRow.laid w)∧sizedMet enc Tryz.prog Tryz.f8 (OpenSpec.ofChange Rows.fnExactTwoClassesSpec) false w args) (Rows.fnExactTwoClassesSpec.post enc Tryz.prog Tryz.f8 false true false false):=by
 refine returnsInHanded_of_change_and (C:=Tryz.checked) (X:=fun w _=>laidMetH Tryz.prog Rows.fnExactTwoClassesRow.laid w) (fun _ _ _ hh h=>h.of_heap hh) own started (by kernel_rfl) Tryz.func8
  (ChangeSpec.witness_shaped (enc:=enc) (C:=Tryz.checked) (os:=os) (X:=fun w _=>laidMetH Tryz.prog Rows.fnExactTwoClassesRow.laid w) false (World.doorLaid Tryz.prog 62 os) #[.string ⟨#[]⟩,.string ⟨#[]⟩,.string ⟨#[]⟩,.int .i64 0,.int .i64 0] 8 rfl (World.shaped_of_RefB (by kernel_rfl) (by kernel_rfl)) (by kernel_rfl) (by kernel_rfl) (by kernel_rfl) (ZT os _)) ?_
 intro W base args ds gs before aqF hW aB0 ayQ hL _
 have aBo:=afL hL
 have Dx:∀(j:Nat) t v,Tryz.f8.params[j]? = some t→args[j]? = some v→Value.okWide Tryz.prog W .any base t v:=aqF
 have hW':=hW
 obtain⟨p,q,ayI,hV,rfl,T8,hnd⟩:=hW
 have atW:DataW.TrodAll enc Tryz.prog W 0 (fun _=>true) true Tryz.f8.params.toList args.toList ds p:=ayI
 have BH:(DataW.weightsEach Tryz.prog (Tryz.f8.params.toList++Rows.fnExactTwoClassesSpec.plain.varTypes Tryz.prog) (ds++gs)).all (· ≤ reachBytes)=true:=ayQ
 rw[Tryz.params8] at atW Dx BH
 obtain⟨v0,vs0,d0,ds0,p0,q0,xC,rfl,rfl,h0,r0⟩:=trodAll_cons atW
 obtain⟨v1,vs1,d1,ds1,p1,q1,rfl,rfl,rfl,h1,r1⟩:=trodAll_cons r0
 obtain⟨v2,vs2,d2,ds2,p2,q2,rfl,rfl,rfl,h2,r2⟩:=trodAll_cons r1
 obtain⟨v3,vs3,d3,ds3,p3,q3,rfl,rfl,rfl,h3,r3⟩:=trodAll_cons r2
 obtain⟨v4,vs4,d4,ds4,p4,q4,rfl,rfl,rfl,h4,r4⟩:=trodAll_cons r3
 obtain⟨rfl,rfl,rfl⟩:=trodAll_nil r4
 obtain rfl:args = #[v0,v1,v2,v3,v4]:=by cases args;simp_all
 obtain⟨rfl,rfl⟩:=trodVars_none hV
 obtain⟨s0,rfl,rfl,rfl,hg0⟩:=HB (Dx 0 _ _ rfl rfl) h0
 have hk0:s0.size≤140737488351232:=by have:=sized_string (bytes:=s0.data.toList) BH (j:=0) rfl rfl;rw[Array.length_toList] at this;exact this
 obtain⟨s1,rfl,rfl,rfl,hg1⟩:=HB (Dx 1 _ _ rfl rfl) h1
 have hk1:s1.size≤140737488351232:=by have:=sized_string (bytes:=s1.data.toList) BH (j:=1) rfl rfl;rw[Array.length_toList] at this;exact this
 obtain⟨s2,rfl,rfl,rfl,hg2⟩:=HB (Dx 2 _ _ rfl rfl) h2
 have hk2:s2.size≤140737488351232:=by have:=sized_string (bytes:=s2.data.toList) BH (j:=2) rfl rfl;rw[Array.length_toList] at this;exact this
 obtain⟨t3,rfl,rfl,rfl,wf3⟩:=open_int Tryz.underlying2 (Dx 3 _ _ rfl rfl) h3
 have hw3:=aaU wf3
 obtain⟨t4,rfl,rfl,rfl,wf4⟩:=open_int Tryz.underlying2 (Dx 4 _ _ rfl rfl) h4
 have hw4:=aaU wf4
 obtain⟨v,H',nP,rfl⟩:=(Ak s0 s1 s2 t3 t4 hk0 hk1 hk2).yes rfl (PE rfl rfl rfl rfl rfl) (.cons _ _ _ _ (.sc _ rfl) (.cons _ _ _ _ (.sc _ rfl) (.cons _ _ _ _ (.sc _ rfl) (.cons _ _ _ _ (.sc _ rfl) (.cons _ _ _ _ (.sc _ rfl) .nil)))))
 refine(acY In.empty (RL.cons (.str _) (RL.cons (.str _) (RL.cons (.str _) (RL.cons (.int _ _) (RL.cons (.int _ _) (RL.nil _)))))) nP).mono fun e W' he => ?_
 obtain⟨m',rv,rfl,Va,bel⟩:=he
 cases Va
 exact⟨_,rfl,_,_,_,[],_,[],hW',trodAll_mk1 (shut_bool Tryz.underlying4 _),(trodAll_cons_mk (Go.ChangeMaps.shut_string Tryz.underlying9 hg0) (trodAll_cons_mk (Go.ChangeMaps.shut_string Tryz.underlying9 hg1) (trodAll_cons_mk (Go.ChangeMaps.shut_string Tryz.underlying9 hg2) (trodAll_cons_mk (shut_int Tryz.underlying2 wf3) (trodAll_cons_mk (shut_int Tryz.underlying2 wf4) trodAll_mk0))))),rfl,bel.frame _,fun h=>by cases h⟩
set_option maxHeartbeats 4000000 in
theorem Uf:joinedFacts Tryz.prog 8 Tryz.f8 Rows.fnExactTwoClassesSpec Rows.fnExactTwoClassesRow=true:=by
 unfold joinedFacts
 simp only[Bool.and_eq_true]
 repeat' apply And.intro
 all_goals as_aux_lemma=>kernel_rfl
theorem W9:Rows.FnExactTwoClassesSaid :=
 OpenClaim.holds_of_wide 8 Tryz.f8 rfl rfl rfl rfl rfl rfl rfl ⟨rfl,rfl,rfl,rfl,rfl⟩ rfl rfl rfl rfl rfl (by as_aux_lemma=>kernel_rfl) Tryz.func8 Uf
  (of_decide_eq_true (by as_aux_lemma=>kernel_rfl)) (by unfold Func.isWrapper;first | (rw[if_pos (by decide +kernel)];as_aux_lemma=>kernel_rfl) | (rw[if_neg (by decide +kernel)];exact⟨rfl,rfl⟩))
  (fun os started T enc _=>lifted os started T enc)
end Go.Proofs.YtjmflicajplclaaGreatDoor