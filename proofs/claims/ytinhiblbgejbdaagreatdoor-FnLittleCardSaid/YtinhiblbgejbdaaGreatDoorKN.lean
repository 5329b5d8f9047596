/- The program's FnLittle returns what the reference's returns, for all arguments: the statement FnLittle holds. -/
import Derived.Test.YtinhiblbgejbdaaGreatDoorCards
import Derived.Test.YtinhiblbgejbdaaGreatDoorTie
import Derived.SevenTiedAt
import Derived.Test.YtinhiblbgejbdaaGreatDoorKNk
set_option linter.unusedSimpArgs false
set_option linter.unusedVariables false
namespace Go.Proofs.YtinhiblbgejbdaaGreatDoor
open Go.ChangeShapes Go.WideShapes Go.ChangeAt Go.RowKit Go.PM
theorem Us (os:Os) (args:Array Value):laidMetH Tryz.prog Rows.fnLittleRow.laid ((World.doorLaid Tryz.prog 24 os).forCall (fun _ _=>0) ⟨#[],args,[]⟩).memory:=by
 rw[MakeChecks.laidMetH_plain _ _ _ (by kernel_rfl)]
 exact laidMet_of_run' 8 (by kernel_rfl) (by kernel_rfl)
theorem Yy {W:World} (h:laidMetH Tryz.prog Rows.fnLittleRow.laid W):Lq W :=
 HK h (by kernel_rfl) (by first | exact .tail _ (.tail _ (.head _)) | exact .head _ | exact .tail _ (.head _)) (t:=186) (e:=101) (n:=20) (by kernel_rfl) (by kernel_rfl) (by kernel_rfl) (by kernel_rfl) (by kernel_rfl)
set_option maxRecDepth 100000 in
theorem lifted (os:Os) (started:os.Started) (T:Type) (enc:TypeId×Value→T) :
  ReturnsInHanded {} Tryz.checked os 4 .any (fun w args=>(Rows.fnLittleSpec.pre enc Tryz.prog Tryz.f4 [] false w args∧laidMetH Tryz.prog Rows.fnLittleRow.laid w)∧sizedMet enc Tryz.prog Tryz.f4 (OpenSpec.ofChange Rows.fnLittleSpec) false w args) (Rows.fnLittleSpec.post enc Tryz.prog Tryz.f4 false true false false):=by
 refine returnsInHanded_of_change_and (C:=Tryz.checked) (X:=fun w _=>laidMetH Tryz.prog Rows.fnLittleRow.laid w) (fun _ _ _ hh h=>h.of_heap hh) own started (by kernel_rfl) Tryz.func4
  (ChangeSpec.witness_shaped (enc:=enc) (C:=Tryz.checked) (os:=os) (X:=fun w _=>laidMetH Tryz.prog Rows.fnLittleRow.laid w) false (World.doorLaid Tryz.prog 24 os) #[.slice none 0 0,.slice none 0 0] 8 rfl (World.shaped_of_RefB (by kernel_rfl) (by kernel_rfl)) (by kernel_rfl) (by kernel_rfl) (by kernel_rfl) (Us os _)) ?_
 intro W base args ds gs before aeF hW auF alD hL _
 have aqJ:=Yy hL
 have WI:∀(j:Nat) t v,Tryz.f4.params[j]? = some t→args[j]? = some v→Value.okWide Tryz.prog W .any base t v:=aeF
 have hW':=hW
 obtain⟨p,q,akV,hV,rfl,Oh,hnd⟩:=hW
 have afU:DataW.TrodAll enc Tryz.prog W 0 (fun _=>true) true Tryz.f4.params.toList args.toList ds p:=akV
 have Aa:(DataW.weightsEach Tryz.prog (Tryz.f4.params.toList++Rows.fnLittleSpec.plain.varTypes Tryz.prog) (ds++gs)).all (· ≤ reachBytes)=true:=alD
 rw[Tryz.params4] at afU WI Aa
 obtain⟨v0,vs0,d0,ds0,p0,q0,sS,rfl,rfl,h0,r0⟩:=trodAll_cons afU
 obtain⟨v1,vs1,d1,ds1,p1,q1,rfl,rfl,rfl,h1,r1⟩:=trodAll_cons r0
 obtain⟨rfl,rfl,rfl⟩:=trodAll_nil r1
 obtain rfl:args = #[v0,v1]:=by cases args;simp_all
 obtain⟨rfl,rfl⟩:=trodVars_none hV
 have lt0:∀x∈p0,x.block<W.heap.size:=by obtain⟨m,hm⟩:=h0;exact DataW.trod_lt m _ _ _ hm
 obtain⟨a0,pa0,n0,c0,xs0,m0,L0,rfl,hI0,Ya,abZ,hA0,hg0,ahY,alB,_,aoX⟩:=HH Tryz.underlying22 (by kernel_rfl) Zm KE J8 h0 (WI 0 _ _ rfl rfl) In.empty
 have Gd:n0≤140737488355328:=Nat.le_trans ahY (Xb Aa (j:=0) alB rfl rfl Tryz.underlying22 (by kernel_rfl))
 have hT0:VR (bare (· < _) _) (eU u8V xs0) _:=Re hA0 ahY (fun _=>rfl) (fun _=>rfl) (fun _=>rfl) aoX
 have lt1:∀x∈p1,x.block<W.heap.size:=by obtain⟨m,hm⟩:=h1;exact DataW.trod_lt m _ _ _ hm
 obtain⟨a1,pa1,n1,c1,xs1,m1,L1,rfl,hI1,Jd,anK,hA1,Z2,agF,ajW,_,alG⟩:=HH Tryz.underlying22 (by kernel_rfl) Zm KE J8 h1 (WI 1 _ _ rfl rfl) hI0
 have hn1:n1≤140737488355328:=Nat.le_trans agF (Xb Aa (j:=1) ajW rfl rfl Tryz.underlying22 (by kernel_rfl))
 have hT1:VR (bare (· < _) _) (eU u8V xs1) _:=Re hA1 agF (fun _=>rfl) (fun _=>rfl) (fun _=>rfl) alG
 have hT0:=hT0.grow (L:=L1)
 have abZ:=abZ.mono Jd
 have hA0:=hA0.pre (List.prefix_append _ L1)
 obtain⟨v,H',kR,rfl⟩:=(Gx xs0 xs1 hg0 Z2).yes rfl (by simp[aO,DC]) (.cons _ _ _ _ hT0 (.cons _ _ _ _ hT1 .nil))
 refine(TX hI1 (RL.cons abZ (RL.cons anK (RL.nil m1))) kR).mono fun e W' he => ?_
 obtain⟨m',rv,rfl,Pk,bel⟩:=he
 cases Pk
 exact⟨_,rfl,_,_,_,[],_,[],hW',trodAll_mk1 (shut_bool Tryz.underlying4 _),(trodAll_cons_mk (Below.trod laidOut (by kernel_rfl) (of_decide_eq_true (by kernel_rfl)) h0 bel lt0) (trodAll_cons_mk (Below.trod laidOut (by kernel_rfl) (of_decide_eq_true (by kernel_rfl)) h1 bel lt1) trodAll_mk0)),rfl,bel.frame _,fun h=>by cases h⟩
theorem Sv:Rows.FnLittleSaid :=
 OpenClaim.holds_of_wide 4 Tryz.f4 rfl rfl rfl rfl rfl rfl rfl ⟨rfl,rfl,rfl,rfl,rfl⟩ rfl rfl rfl rfl rfl (by kernel_rfl) Tryz.func4 (by kernel_rfl)
  (of_decide_eq_true (by kernel_rfl)) (by unfold Func.isWrapper;first | (rw[if_pos (by decide +kernel)];kernel_rfl) | (rw[if_neg (by decide +kernel)];exact⟨rfl,rfl⟩))
  (fun os started T enc _=>lifted os started T enc)
theorem FnLittle_holds:Rows.FnLittleCardSaid :=
 Claim7.holds_tied_plain_at .later [] [.data,.data,.data] true (true,"054032c46230a5041ac99f6b67451ba9e363ff9a1b8aedf28fd2134decda22ef") false
  Sv (fun _ h=>by cases h) (by kernel_rfl) (fun _ h=>by cases h) fnLittle_row_tie rfl ⟨rfl,rfl⟩ (by kernel_rfl) rfl
  (fun f fn hf hfn=>by
   obtain rfl:f=4:=Option.some.inj ((show Tryz.prog.funcNamed "loop.example/g01211/laws.FnLittle"=some 4 by kernel_rfl).symm.trans hf) |>.symm
   obtain rfl:fn=Tryz.f4:=(Option.some.inj (Tryz.func4.symm.trans hfn)).symm
   exact⟨by kernel_rfl,fun j t ht=>by
    rw[Tryz.params4] at ht
    have hm:t∈[22,22]:=by simpa using Array.mem_of_getElem? ht
    have iN:([22,22].all fun u => !Tryz.prog.wantsStandIn u)=true:=by kernel_rfl
    exact(show Tryz.prog.wantsStandIn t=false by simpa using List.all_eq_true.1 iN t hm)⟩)
  (by kernel_rfl)
end Go.Proofs.YtinhiblbgejbdaaGreatDoor