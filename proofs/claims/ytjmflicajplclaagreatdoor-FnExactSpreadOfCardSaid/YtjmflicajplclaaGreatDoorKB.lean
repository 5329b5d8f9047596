/- The program's SpreadOf returns what the reference's returns, for all arguments: the statement FnExactSpreadOf holds. -/
import Derived.Test.YtjmflicajplclaaGreatDoorKBp
set_option linter.unusedSimpArgs false
set_option linter.unusedVariables false
namespace Go.Proofs.YtjmflicajplclaaGreatDoor
open Go.ChangeShapes Go.WideShapes Go.ChangeAt Go.RowKit Go.PM
set_option maxHeartbeats 4000000 in
theorem FnExactSpreadOf_holds:Rows.FnExactSpreadOfCardSaid :=
 Claim7.holds_tied_plain_at .later [] [.data,.data,.data,.sentinel,.sentinel] true (true,"223ce2faabbe5b09c37d121fbbac50268bbfd726051e74fd872cadf067eb7027") true
  adW (fun _ h=>by cases h) (by as_aux_lemma=>kernel_rfl) (fun _ h=>by cases h) fnExactSpreadOf_row_tie rfl ⟨rfl,rfl⟩ (by as_aux_lemma=>kernel_rfl) rfl
  (fun f fn hf hfn=>by
   obtain rfl:f=12:=Option.some.inj ((show Tryz.prog.funcNamed "loop.example/g01211/laws.FnExactSpreadOf"=some 12 by as_aux_lemma=>kernel_rfl).symm.trans hf) |>.symm
   obtain rfl:fn=Tryz.f12:=(Option.some.inj (Tryz.func12.symm.trans hfn)).symm
   exact⟨by as_aux_lemma=>kernel_rfl,fun j t ht=>by
    rw[Tryz.params12] at ht
    have hm:t∈[57]:=by simpa using Array.mem_of_getElem? ht
    have jP:([57].all fun u => !Tryz.prog.wantsStandIn u)=true:=by as_aux_lemma=>kernel_rfl
    exact(show Tryz.prog.wantsStandIn t=false by simpa using List.all_eq_true.1 jP t hm)⟩)
  (by as_aux_lemma=>kernel_rfl)
end Go.Proofs.YtjmflicajplclaaGreatDoor