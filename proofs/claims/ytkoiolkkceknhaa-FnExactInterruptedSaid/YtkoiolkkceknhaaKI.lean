/- The program's Interrupted returns what the reference's returns, for all arguments: the statement FnExactInterrupted holds. -/
import Derived.Test.YtkoiolkkceknhaaKIn

set_option linter.unusedSimpArgs false
set_option linter.unusedVariables false
namespace Go.Proofs.Ytkoiolkkceknhaa
open Go.ChangeShapes Go.WideShapes Go.ChangeAt Go.RowKit Go.PM

set_option maxRecDepth 100000 in
theorem lifted (os : Os) (started : os.Started) (T : Type) (enc : TypeId × Value → T) :
    ReturnsInHanded {} Try.checked os 9 .any (Rows.fnExactInterruptedSpec.pre6 enc Try.prog Try.f9 Rows.fnExactInterruptedRow.domain false) (Rows.fnExactInterruptedSpec.post enc Try.prog Try.f9 false true false false) := by
  refine returnsInHanded_of_change_sized (C := Try.checked) own started (by kernel_rfl) Try.func9
    (ChangeSpec.witness6 (enc := enc) (C := Try.checked) false ⟨#[], #[.slice none 0 0], []⟩ 8 (by kernel_rfl) (by kernel_rfl) (by kernel_rfl) (by kernel_rfl)) ?_
  intro W base args ds gs before hval0 hW hcnd hsz0 _
  have hval : ∀ (j : Nat) t v, Try.f9.params[j]? = some t → args[j]? = some v → Value.okWide Try.prog W .any base t v := hval0
  have hW' := hW
  obtain ⟨p, q, hA0', hV, rfl, hfz, hnd⟩ := hW
  have hAll : DataW.TrodAll enc Try.prog W 0 (fun _ => true) true Try.f9.params.toList args.toList ds p := hA0'
  have hsz : (DataW.weightsEach Try.prog (Try.f9.params.toList ++ Rows.fnExactInterruptedSpec.plain.varTypes Try.prog) (ds ++ gs)).all (· ≤ reachBytes) = true := hsz0
  rw [Try.params9] at hAll hval hsz
  obtain ⟨v0, vs0, d0, ds0, p0, q0, hargs, rfl, rfl, h0, r0⟩ := trodAll_cons hAll
  obtain ⟨rfl, rfl, rfl⟩ := trodAll_nil r0
  obtain rfl : args = #[v0] := by cases args; simp_all
  obtain ⟨rfl, rfl⟩ := trodVars_none hV
  have lt0 : ∀ x ∈ p0, x.block < W.heap.size := by obtain ⟨m, hm⟩ := h0; exact DataW.trod_lt m _ _ _ hm
  obtain ⟨a0, pa0, n0, c0, xs0, m0, L0, rfl, hI0, hm0, hRV0, hA0, hg0, hnc0, hmx0, _, hbk0⟩ := open_slice Try.underlying22 (by kernel_rfl) cc_ok open_cust cust_self h0 (hval 0 _ _ rfl rfl) In.empty
  have hn0 : n0 ≤ 140737488355328 := Nat.le_trans hnc0 (cap_le hsz (j := 0) hmx0 rfl rfl Try.underlying22 (by kernel_rfl))
  have hT0 : VR (bare (· < _) _) (listV cV xs0) _ := tree_of hA0 hnc0 (fun _ => rfl) (fun _ => rfl) (fun _ => rfl) hbk0
  obtain ⟨v, H', hcall, rfl⟩ := (laws_FnExactInterrupted_v xs0 (hA0.len ▸ hn0)).yes rfl (by simp [pureL, custsV_pure]) (.cons _ _ _ _ hT0 .nil)
  refine (calls_pm hI0 (RL.cons hRV0 (RL.nil m0)) hcall).mono fun e W' he => ?_
  obtain ⟨m', rv, rfl, hrv, bel⟩ := he
  cases hrv
  exact ⟨_, rfl, _, _, _, [], _, [], hW', trodAll_mk1 (shut_bool Try.underlying4 _), (trodAll_cons_mk (Below.trod laidOut (by kernel_rfl) (of_decide_eq_true (by kernel_rfl)) h0 bel lt0) trodAll_mk0), rfl, bel.frame _, fun h => by cases h⟩

theorem FnExactInterrupted_holds : Rows.FnExactInterruptedSaid :=
  OpenClaim.holds_of_wide 9 Try.f9 rfl rfl rfl rfl rfl rfl rfl ⟨rfl, rfl, rfl, rfl, rfl⟩ rfl rfl rfl rfl rfl (by kernel_rfl) Try.func9 (by kernel_rfl)
    (of_decide_eq_true (by kernel_rfl)) (by unfold Func.isWrapper; first | (rw [if_pos (by decide +kernel)]; kernel_rfl) | (rw [if_neg (by decide +kernel)]; exact ⟨rfl, rfl⟩))
    (fun os started T enc _ => lifted os started T enc)
end Go.Proofs.Ytkoiolkkceknhaa
