/- The program's FirstChance returns what the reference's returns, for all arguments: the statement FnExactFirstChance holds. -/
import Derived.Test.YtjmflicajplclaaGreatDoorKEp
set_option linter.unusedSimpArgs false
set_option linter.unusedVariables false
namespace Go.Proofs.YtjmflicajplclaaGreatDoor
open Go.ChangeShapes Go.WideShapes Go.ChangeAt Go.RowKit Go.PM
set_option maxHeartbeats 4000000 in
theorem FnExactFirstChance_holds:Rows.FnExactFirstChanceCardSaid :=
 Claim7.holds_tied_plain_at .later [] [.data,.data,.data,.sentinel,.sentinel] true (true,"223ce2faabbe5b09c37d121fbbac50268bbfd726051e74fd872cadf067eb7027") true
  afA (fun _ h=>by cases h) (by as_aux_lemma=>kernel_rfl) (fun _ h=>by cases h) fnExactFirstChance_row_tie rfl ⟨rfl,rfl⟩ (by as_aux_lemma=>kernel_rfl) rfl
  (fun f fn hf hfn=>by
   obtain rfl:f=14:=Option.some.inj ((show Tryz.prog.funcNamed "loop.example/g01211/laws.FnExactFirstChance"=some 14 by as_aux_lemma=>kernel_rfl).symm.trans hf) |>.symm
   obtain rfl:fn=Tryz.f14:=(Option.some.inj (Tryz.func14.symm.trans hfn)).symm
   exact⟨by as_aux_lemma=>kernel_rfl,fun j t ht=>by
    rw[Tryz.params14] at ht
    have hm:t∈[57,57]:=by simpa using Array.mem_of_getElem? ht
    have kV:([57,57].all fun u => !Tryz.prog.wantsStandIn u)=true:=by as_aux_lemma=>kernel_rfl
    exact(show Tryz.prog.wantsStandIn t=false by simpa using List.all_eq_true.1 kV t hm)⟩)
  (by as_aux_lemma=>kernel_rfl)
end Go.Proofs.YtjmflicajplclaaGreatDoor