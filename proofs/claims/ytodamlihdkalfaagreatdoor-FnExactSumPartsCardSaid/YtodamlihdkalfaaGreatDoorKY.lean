/- The program's SumParts returns what the reference's returns, for all arguments: the statement FnExactSumParts holds. -/
import Derived.Test.YtodamlihdkalfaaGreatDoorKYm
set_option linter.unusedSimpArgs false
set_option linter.unusedVariables false
namespace Go.Proofs.YtodamlihdkalfaaGreatDoor
open Go.ChangeShapes Go.WideShapes Go.ChangeAt Go.RowKit Go.PM
set_option maxHeartbeats 4000000 in
theorem FnExactSumParts_holds:Rows.FnExactSumPartsCardSaid :=
 Claim7.holds_tied_plain_at .later [] [.data,.data,.data,.sentinel,.sentinel] true (true,"8f2c5268c1f8534d4b4ff7524992ec49174648fc25e797cc8d617673f0cc135b") true
  We (fun _ h=>by cases h) (by as_aux_lemma=>kernel_rfl) (fun _ h=>by cases h) fnExactSumParts_row_tie rfl ⟨rfl,rfl⟩ (by as_aux_lemma=>kernel_rfl) rfl
  (fun f fn hf hfn=>by
   obtain rfl:f=10:=Option.some.inj ((show Tryz.prog.funcNamed "loop.example/g01211/laws.FnExactSumParts"=some 10 by as_aux_lemma=>kernel_rfl).symm.trans hf) |>.symm
   obtain rfl:fn=Tryz.f10:=(Option.some.inj (Tryz.func10.symm.trans hfn)).symm
   exact⟨by as_aux_lemma=>kernel_rfl,fun j t ht=>by
    rw[Tryz.params10] at ht
    have hm:t∈[22,61]:=by simpa using Array.mem_of_getElem? ht
    have kB:([22,61].all fun u => !Tryz.prog.wantsStandIn u)=true:=by as_aux_lemma=>kernel_rfl
    exact(show Tryz.prog.wantsStandIn t=false by simpa using List.all_eq_true.1 kB t hm)⟩)
  (by as_aux_lemma=>kernel_rfl)
end Go.Proofs.YtodamlihdkalfaaGreatDoor