/- The program's BreakQueue returns what the reference's returns, for all arguments: the statement FnExactBreakQueue holds. -/
import Derived.Test.YtjmflicajplclaaGreatDoorKWn
set_option linter.unusedSimpArgs false
set_option linter.unusedVariables false
namespace Go.Proofs.YtjmflicajplclaaGreatDoor
open Go.ChangeShapes Go.WideShapes Go.ChangeAt Go.RowKit Go.PM
set_option maxHeartbeats 4000000 in
theorem FnExactBreakQueue_holds:Rows.FnExactBreakQueueCardSaid :=
 Claim7.holds_tied_plain_at .later [] [.data,.data,.data,.sentinel,.sentinel] true (true,"223ce2faabbe5b09c37d121fbbac50268bbfd726051e74fd872cadf067eb7027") true
  XH (fun _ h=>by cases h) (by as_aux_lemma=>kernel_rfl) (fun _ h=>by cases h) fnExactBreakQueue_row_tie rfl ⟨rfl,rfl⟩ (by as_aux_lemma=>kernel_rfl) rfl
  (fun f fn hf hfn=>by
   obtain rfl:f=7:=Option.some.inj ((show Tryz.prog.funcNamed "loop.example/g01211/laws.FnExactBreakQueue"=some 7 by as_aux_lemma=>kernel_rfl).symm.trans hf) |>.symm
   obtain rfl:fn=Tryz.f7:=(Option.some.inj (Tryz.func7.symm.trans hfn)).symm
   exact⟨by as_aux_lemma=>kernel_rfl,fun j t ht=>by
    rw[Tryz.params7] at ht
    have hm:t∈[9,9,9,9,2]:=by simpa using Array.mem_of_getElem? ht
    have lE:([9,9,9,9,2].all fun u => !Tryz.prog.wantsStandIn u)=true:=by as_aux_lemma=>kernel_rfl
    exact(show Tryz.prog.wantsStandIn t=false by simpa using List.all_eq_true.1 lE t hm)⟩)
  (by as_aux_lemma=>kernel_rfl)
end Go.Proofs.YtjmflicajplclaaGreatDoor