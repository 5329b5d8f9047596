/- The program's RestMean returns what the reference's returns, for all arguments: the statement FnExactRestMean holds. -/
import Derived.Test.YtjmflicajplclaaGreatDoorKCp
set_option linter.unusedSimpArgs false
set_option linter.unusedVariables false
namespace Go.Proofs.YtjmflicajplclaaGreatDoor
open Go.ChangeShapes Go.WideShapes Go.ChangeAt Go.RowKit Go.PM
set_option maxHeartbeats 4000000 in
theorem FnExactRestMean_holds:Rows.FnExactRestMeanCardSaid :=
 Claim7.holds_tied_plain_at .later [] [.data,.data,.data,.sentinel,.sentinel] true (true,"223ce2faabbe5b09c37d121fbbac50268bbfd726051e74fd872cadf067eb7027") true
  adV (fun _ h=>by cases h) (by as_aux_lemma=>kernel_rfl) (fun _ h=>by cases h) fnExactRestMean_row_tie rfl ⟨rfl,rfl⟩ (by as_aux_lemma=>kernel_rfl) rfl
  (fun f fn hf hfn=>by
   obtain rfl:f=13:=Option.some.inj ((show Tryz.prog.funcNamed "loop.example/g01211/laws.FnExactRestMean"=some 13 by as_aux_lemma=>kernel_rfl).symm.trans hf) |>.symm
   obtain rfl:fn=Tryz.f13:=(Option.some.inj (Tryz.func13.symm.trans hfn)).symm
   exact⟨by as_aux_lemma=>kernel_rfl,fun j t ht=>by
    rw[Tryz.params13] at ht
    have hm:t∈[57]:=by simpa using Array.mem_of_getElem? ht
    have jW:([57].all fun u => !Tryz.prog.wantsStandIn u)=true:=by as_aux_lemma=>kernel_rfl
    exact(show Tryz.prog.wantsStandIn t=false by simpa using List.all_eq_true.1 jW t hm)⟩)
  (by as_aux_lemma=>kernel_rfl)
end Go.Proofs.YtjmflicajplclaaGreatDoor