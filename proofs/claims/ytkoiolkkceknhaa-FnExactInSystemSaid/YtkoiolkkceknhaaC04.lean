/- The program's InSystem returns what the reference's returns, for all arguments: the statement FnExactInSystem holds. -/
import Derived.Test.YtkoiolkkceknhaaC05Open
import Derived.Test.YtkoiolkkceknhaaW05S
namespace Go.Proofs.Ytkoiolkkceknhaa
open Go.ChangeShapes Go.WideShapes Go.ChangeAt Go.RowKit Go.PM

set_option maxRecDepth 100000 in
theorem lifted (os : Os) (started : os.Started) (T : Type) (enc : TypeId × Value → T) :
    ReturnsInHanded {} Try.checked os 6 .any (Rows.fnExactInSystemSpec.pre6 enc Try.prog Try.f6 Rows.fnExactInSystemRow.domain false) (Rows.fnExactInSystemSpec.post enc Try.prog Try.f6 false true false false) := by
  refine returnsInHanded_of_change_sized (C := Try.checked) own started (by kernel_rfl) Try.func6
    (ChangeSpec.witness6 (enc := enc) (C := Try.checked) false ⟨#[], #[.slice none 0 0, .slice none 0 0, .int .i64 0], []⟩ 8 (by kernel_rfl) (by kernel_rfl) (by kernel_rfl) (by kernel_rfl)) ?_
  intro W base args ds gs before hval0 hW hcnd hsz0 _
  have hval : ∀ (j : Nat) t v, Try.f6.params[j]? = some t → args[j]? = some v → Value.okWide Try.prog W .any base t v := hval0
  have hW' := hW
  obtain ⟨p, q, hA0', hV, rfl, hfz, hnd⟩ := hW
  have hAll : DataW.TrodAll enc Try.prog W 0 (fun _ => true) true Try.f6.params.toList args.toList ds p := hA0'
  have hsz : (DataW.weightsEach Try.prog (Try.f6.params.toList ++ Rows.fnExactInSystemSpec.plain.varTypes Try.prog) (ds ++ gs)).all (· ≤ reachBytes) = true := hsz0
  rw [Try.params6] at hAll hval hsz
  obtain ⟨v0, vs0, d0, ds0, p0, q0, hargs, rfl, rfl, h0, r0⟩ := trodAll_cons hAll
  obtain ⟨v1, vs1, d1, ds1, p1, q1, rfl, rfl, rfl, h1, r1⟩ := trodAll_cons r0
  obtain ⟨v2, vs2, d2, ds2, p2, q2, rfl, rfl, rfl, h2, r2⟩ := trodAll_cons r1
  obtain ⟨rfl, rfl, rfl⟩ := trodAll_nil r2
  obtain rfl : args = #[v0, v1, v2] := by cases args; simp_all
  obtain ⟨rfl, rfl⟩ := trodVars_none hV
  have lt0 : ∀ x ∈ p0, x.block < W.heap.size := by obtain ⟨m, hm⟩ := h0; exact DataW.trod_lt m _ _ _ hm
  obtain ⟨a0, pa0, n0, c0, xs0, m0, L0, rfl, hI0, hm0, hRV0, hA0, hg0, hnc0, hmx0, _⟩ := open_slice Try.underlying22 (by kernel_rfl) cc_ok open_cust cust_self h0 (hval 0 _ _ rfl rfl) In.empty
  have hn0 : n0 ≤ 140737488355328 := Nat.le_trans hnc0 (cap_le hsz (j := 0) hmx0 rfl rfl Try.underlying22 (by kernel_rfl))
  have lt1 : ∀ x ∈ p1, x.block < W.heap.size := by obtain ⟨m, hm⟩ := h1; exact DataW.trod_lt m _ _ _ hm
  obtain ⟨a1, pa1, n1, c1, xs1, m1, L1, rfl, hI1, hm1, hRV1, hA1, hg1, hnc1, hmx1, _⟩ := open_slice Try.underlying32 (by kernel_rfl) ci_ok open_num num_self h1 (hval 1 _ _ rfl rfl) hI0
  have hn1 : n1 ≤ 140737488355328 := Nat.le_trans hnc1 (cap_le hsz (j := 1) hmx1 rfl rfl Try.underlying32 (by kernel_rfl))
  have hRV0 := hRV0.mono hm1
  have hA0 := hA0.pre (List.prefix_append _ L1)
  obtain ⟨t2, rfl, rfl, rfl, wf2⟩ := open_int Try.underlying2 (hval 2 _ _ rfl rfl) h2
  have hw2 := w64_of wf2
  obtain ⟨v, H', hcall, rfl⟩ := laws_FnExactInSystem_w xs0 xs1 t2 (c0 := c0) (c1 := c1) hA0 hn0 hA1 hn1
  refine (calls_pm hI1 (RL.cons hRV0 (RL.cons hRV1 (RL.cons (.int _ _) (RL.nil m1)))) hcall).mono fun e W' he => ?_
  obtain ⟨m', rv, rfl, hrv, bel⟩ := he
  cases hrv
  exact ⟨_, rfl, _, _, _, [], _, [], hW', trodAll_mk1 (shut_bool Try.underlying4 _), (trodAll_cons_mk (Below.trod laidOut (by kernel_rfl) (of_decide_eq_true (by kernel_rfl)) h0 bel lt0) (trodAll_cons_mk (Below.trod laidOut (by kernel_rfl) (of_decide_eq_true (by kernel_rfl)) h1 bel lt1) (trodAll_cons_mk (shut_int Try.underlying2 wf2) trodAll_mk0))), rfl, bel.frame _, fun h => by cases h⟩

theorem FnExactInSystem_holds : Rows.FnExactInSystemSaid :=
  OpenClaim.holds_of_wide 6 Try.f6 rfl rfl rfl rfl rfl rfl rfl ⟨rfl, rfl, rfl, rfl, rfl⟩ rfl rfl rfl rfl rfl (by kernel_rfl) Try.func6 (by kernel_rfl)
    (of_decide_eq_true (by kernel_rfl)) (by unfold Func.isWrapper; first | (rw [if_pos (by decide +kernel)]; kernel_rfl) | (rw [if_neg (by decide +kernel)]; exact ⟨rfl, rfl⟩))
    (fun os started T enc _ => lifted os started T enc)
end Go.Proofs.Ytkoiolkkceknhaa
