/- The program's WorkLeft returns what the reference's returns, for all arguments: the statement FnExactWorkLeft holds. -/
import Derived.Test.YtkoiolkkceknhaaC05Open
import Derived.Test.YtkoiolkkceknhaaW05W
namespace Go.Proofs.Ytkoiolkkceknhaa
open Go.ChangeShapes Go.WideShapes Go.ChangeAt Go.RowKit Go.PM

set_option maxRecDepth 100000 in
theorem lifted (os : Os) (started : os.Started) (T : Type) (enc : TypeId × Value → T) :
    ReturnsInHanded {} Try.checked os 4 .any (Rows.fnExactWorkLeftSpec.pre6 enc Try.prog Try.f4 Rows.fnExactWorkLeftRow.domain false) (Rows.fnExactWorkLeftSpec.post enc Try.prog Try.f4 false true false false) := by
  refine returnsInHanded_of_change_sized (C := Try.checked) own started (by kernel_rfl) Try.func4
    (ChangeSpec.witness6 (enc := enc) (C := Try.checked) false ⟨#[], #[.slice none 0 0, .int .i64 0], []⟩ 8 (by kernel_rfl) (by kernel_rfl) (by kernel_rfl) (by kernel_rfl)) ?_
  intro W base args ds gs before hval0 hW hcnd hsz0 _
  have hval : ∀ (j : Nat) t v, Try.f4.params[j]? = some t → args[j]? = some v → Value.okWide Try.prog W .any base t v := hval0
  have hW' := hW
  obtain ⟨p, q, hA0', hV, rfl, hfz, hnd⟩ := hW
  have hAll : DataW.TrodAll enc Try.prog W 0 (fun _ => true) true Try.f4.params.toList args.toList ds p := hA0'
  have hsz : (DataW.weightsEach Try.prog (Try.f4.params.toList ++ Rows.fnExactWorkLeftSpec.plain.varTypes Try.prog) (ds ++ gs)).all (· ≤ reachBytes) = true := hsz0
  rw [Try.params4] at hAll hval hsz
  obtain ⟨v0, vs0, d0, ds0, p0, q0, hargs, rfl, rfl, h0, r0⟩ := trodAll_cons hAll
  obtain ⟨v1, vs1, d1, ds1, p1, q1, rfl, rfl, rfl, h1, r1⟩ := trodAll_cons r0
  obtain ⟨rfl, rfl, rfl⟩ := trodAll_nil r1
  obtain rfl : args = #[v0, v1] := by cases args; simp_all
  obtain ⟨rfl, rfl⟩ := trodVars_none hV
  have lt0 : ∀ x ∈ p0, x.block < W.heap.size := by obtain ⟨m, hm⟩ := h0; exact DataW.trod_lt m _ _ _ hm
  obtain ⟨a0, pa0, n0, c0, xs0, m0, L0, rfl, hI0, hm0, hRV0, hA0, hg0, hnc0, hmx0, _⟩ := open_slice Try.underlying22 (by kernel_rfl) cc_ok open_cust cust_self h0 (hval 0 _ _ rfl rfl) In.empty
  have hn0 : n0 ≤ 140737488355328 := Nat.le_trans hnc0 (cap_le hsz (j := 0) hmx0 rfl rfl Try.underlying22 (by kernel_rfl))
  obtain ⟨t1, rfl, rfl, rfl, wf1⟩ := open_int Try.underlying2 (hval 1 _ _ rfl rfl) h1
  have hw1 := w64_of wf1
  obtain ⟨v, H', hcall, rfl⟩ := laws_FnExactWorkLeft_w xs0 t1 (c := c0) hA0 hn0
  refine (calls_pm hI0 (RL.cons hRV0 (RL.cons (.int _ _) (RL.nil m0))) hcall).mono fun e W' he => ?_
  obtain ⟨m', rv, rfl, hrv, bel⟩ := he
  cases hrv
  exact ⟨_, rfl, _, _, _, [], _, [], hW', trodAll_mk1 (shut_bool Try.underlying4 _), (trodAll_cons_mk (Below.trod laidOut (by kernel_rfl) (of_decide_eq_true (by kernel_rfl)) h0 bel lt0) (trodAll_cons_mk (shut_int Try.underlying2 wf1) trodAll_mk0)), rfl, bel.frame _, fun h => by cases h⟩

theorem FnExactWorkLeft_holds : Rows.FnExactWorkLeftSaid :=
  OpenClaim.holds_of_wide 4 Try.f4 rfl rfl rfl rfl rfl rfl rfl ⟨rfl, rfl, rfl, rfl, rfl⟩ rfl rfl rfl rfl rfl (by kernel_rfl) Try.func4 (by kernel_rfl)
    (of_decide_eq_true (by kernel_rfl)) (by unfold Func.isWrapper; first | (rw [if_pos (by decide +kernel)]; kernel_rfl) | (rw [if_neg (by decide +kernel)]; exact ⟨rfl, rfl⟩))
    (fun os started T enc _ => lifted os started T enc)
end Go.Proofs.Ytkoiolkkceknhaa
