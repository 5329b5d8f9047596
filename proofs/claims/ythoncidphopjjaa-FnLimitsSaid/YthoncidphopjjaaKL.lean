/- With room for all nobody is lost, the system never holds more than its room, and with patience for ever customers start as the first come first: the statement FnLimits holds. -/
import Derived.Test.YthoncidphopjjaaKLo

set_option linter.unusedSimpArgs false
set_option linter.unusedVariables false
namespace Go.Proofs.Ythoncidphopjjaa
open Go.ChangeShapes Go.WideShapes Go.ChangeAt Go.RowKit Go.PM

set_option maxRecDepth 100000 in
theorem lifted (os : Os) (started : os.Started) (T : Type) (enc : TypeId × Value → T) :
    ReturnsInHanded {} Try.checked os 4 .any (Rows.fnLimitsSpec.pre6 enc Try.prog Try.f4 Rows.fnLimitsRow.domain false) (Rows.fnLimitsSpec.post enc Try.prog Try.f4 false true false false) := by
  refine returnsInHanded_of_change_sized (C := Try.checked) own started (by kernel_rfl) Try.func4
    (ChangeSpec.witness6 (enc := enc) (C := Try.checked) false ⟨#[], #[.slice none 0 0, .slice none 0 0], []⟩ 8 (by kernel_rfl) (by kernel_rfl) (by kernel_rfl) (by kernel_rfl)) ?_
  intro W base args ds gs before hval0 hW hcnd hsz0 _
  have hval : ∀ (j : Nat) t v, Try.f4.params[j]? = some t → args[j]? = some v → Value.okWide Try.prog W .any base t v := hval0
  have hW' := hW
  obtain ⟨p, q, hA0', hV, rfl, hfz, hnd⟩ := hW
  have hAll : DataW.TrodAll enc Try.prog W 0 (fun _ => true) true Try.f4.params.toList args.toList ds p := hA0'
  have hsz : (DataW.weightsEach Try.prog (Try.f4.params.toList ++ Rows.fnLimitsSpec.plain.varTypes Try.prog) (ds ++ gs)).all (· ≤ reachBytes) = true := hsz0
  rw [Try.params4] at hAll hval hsz
  obtain ⟨v0, vs0, d0, ds0, p0, q0, hargs, rfl, rfl, h0, r0⟩ := trodAll_cons hAll
  obtain ⟨v1, vs1, d1, ds1, p1, q1, rfl, rfl, rfl, h1, r1⟩ := trodAll_cons r0
  obtain ⟨rfl, rfl, rfl⟩ := trodAll_nil r1
  obtain rfl : args = #[v0, v1] := by cases args; simp_all
  obtain ⟨rfl, rfl⟩ := trodVars_none hV
  have lt0 : ∀ x ∈ p0, x.block < W.heap.size := by obtain ⟨m, hm⟩ := h0; exact DataW.trod_lt m _ _ _ hm
  obtain ⟨a0, pa0, n0, c0, xs0, m0, L0, rfl, hI0, hm0, hRV0, hA0, hg0, hnc0, hmx0, _, hbk0⟩ := open_slice Try.underlying34 (by kernel_rfl) cb_ok open_byte byte_self h0 (hval 0 _ _ rfl rfl) In.empty
  have hn0 : n0 ≤ 140737488355328 := Nat.le_trans hnc0 (cap_le hsz (j := 0) hmx0 rfl rfl Try.underlying34 (by kernel_rfl))
  have hT0 : VR (bare (· < _) _) (listV u8V xs0) _ := tree_of hA0 hnc0 (fun _ => rfl) (fun _ => rfl) (fun _ => rfl) hbk0
  have lt1 : ∀ x ∈ p1, x.block < W.heap.size := by obtain ⟨m, hm⟩ := h1; exact DataW.trod_lt m _ _ _ hm
  obtain ⟨a1, pa1, n1, c1, xs1, m1, L1, rfl, hI1, hm1, hRV1, hA1, hg1, hnc1, hmx1, _, hbk1⟩ := open_slice Try.underlying34 (by kernel_rfl) cb_ok open_byte byte_self h1 (hval 1 _ _ rfl rfl) hI0
  have hn1 : n1 ≤ 140737488355328 := Nat.le_trans hnc1 (cap_le hsz (j := 1) hmx1 rfl rfl Try.underlying34 (by kernel_rfl))
  have hT1 : VR (bare (· < _) _) (listV u8V xs1) _ := tree_of hA1 hnc1 (fun _ => rfl) (fun _ => rfl) (fun _ => rfl) hbk1
  have hT0 := hT0.grow (L := L1)
  have hRV0 := hRV0.mono hm1
  have hA0 := hA0.pre (List.prefix_append _ L1)
  obtain ⟨v, H', hcall, rfl⟩ := (laws_FnLimits_v xs0 xs1 hg0 hg1).yes rfl (by simp [pureL, byt_pure]) (.cons _ _ _ _ hT0 (.cons _ _ _ _ hT1 .nil))
  refine (calls_pm hI1 (RL.cons hRV0 (RL.cons hRV1 (RL.nil m1))) hcall).mono fun e W' he => ?_
  obtain ⟨m', rv, rfl, hrv, bel⟩ := he
  cases hrv
  exact ⟨_, rfl, _, _, _, [], _, [], hW', trodAll_mk1 (shut_bool Try.underlying4 _), (trodAll_cons_mk (Below.trod laidOut (by kernel_rfl) (of_decide_eq_true (by kernel_rfl)) h0 bel lt0) (trodAll_cons_mk (Below.trod laidOut (by kernel_rfl) (of_decide_eq_true (by kernel_rfl)) h1 bel lt1) trodAll_mk0)), rfl, bel.frame _, fun h => by cases h⟩

theorem FnLimits_holds : Rows.FnLimitsSaid :=
  OpenClaim.holds_of_wide 4 Try.f4 rfl rfl rfl rfl rfl rfl rfl ⟨rfl, rfl, rfl, rfl, rfl⟩ rfl rfl rfl rfl rfl (by kernel_rfl) Try.func4 (by kernel_rfl)
    (of_decide_eq_true (by kernel_rfl)) (by unfold Func.isWrapper; first | (rw [if_pos (by decide +kernel)]; kernel_rfl) | (rw [if_neg (by decide +kernel)]; exact ⟨rfl, rfl⟩))
    (fun os started T enc _ => lifted os started T enc)
end Go.Proofs.Ythoncidphopjjaa
