/- The program's WithRoom returns what the reference's returns, for all arguments: the statement FnExactWithRoom holds. -/
import Derived.Test.YthoncidphopjjaaKWp

set_option linter.unusedSimpArgs false
set_option linter.unusedVariables false
namespace Go.Proofs.Ythoncidphopjjaa
open Go.ChangeShapes Go.WideShapes Go.ChangeAt Go.RowKit Go.PM

set_option maxRecDepth 100000 in
theorem lifted (os : Os) (started : os.Started) (T : Type) (enc : TypeId × Value → T) :
    ReturnsInHanded {} Try.checked os 3 .any (Rows.fnExactWithRoomSpec.pre6 enc Try.prog Try.f3 Rows.fnExactWithRoomRow.domain false) (Rows.fnExactWithRoomSpec.post enc Try.prog Try.f3 false true false false) := by
  refine returnsInHanded_of_change_sized (C := Try.checked) own started (by kernel_rfl) Try.func3
    (ChangeSpec.witness6 (enc := enc) (C := Try.checked) false ⟨#[], #[.int .i64 0, .int .i64 0, .slice none 0 0], []⟩ 8 (by kernel_rfl) (by kernel_rfl) (by kernel_rfl) (by kernel_rfl)) ?_
  intro W base args ds gs before hval0 hW hcnd hsz0 _
  have hval : ∀ (j : Nat) t v, Try.f3.params[j]? = some t → args[j]? = some v → Value.okWide Try.prog W .any base t v := hval0
  have hW' := hW
  obtain ⟨p, q, hA0', hV, rfl, hfz, hnd⟩ := hW
  have hAll : DataW.TrodAll enc Try.prog W 0 (fun _ => true) true Try.f3.params.toList args.toList ds p := hA0'
  have hsz : (DataW.weightsEach Try.prog (Try.f3.params.toList ++ Rows.fnExactWithRoomSpec.plain.varTypes Try.prog) (ds ++ gs)).all (· ≤ reachBytes) = true := hsz0
  rw [Try.params3] at hAll hval hsz
  obtain ⟨v0, vs0, d0, ds0, p0, q0, hargs, rfl, rfl, h0, r0⟩ := trodAll_cons hAll
  obtain ⟨v1, vs1, d1, ds1, p1, q1, rfl, rfl, rfl, h1, r1⟩ := trodAll_cons r0
  obtain ⟨v2, vs2, d2, ds2, p2, q2, rfl, rfl, rfl, h2, r2⟩ := trodAll_cons r1
  obtain ⟨rfl, rfl, rfl⟩ := trodAll_nil r2
  obtain rfl : args = #[v0, v1, v2] := by cases args; simp_all
  obtain ⟨rfl, rfl⟩ := trodVars_none hV
  obtain ⟨t0, rfl, rfl, rfl, wf0⟩ := open_int Try.underlying2 (hval 0 _ _ rfl rfl) h0
  have hw0 := w64_of wf0
  obtain ⟨t1, rfl, rfl, rfl, wf1⟩ := open_int Try.underlying2 (hval 1 _ _ rfl rfl) h1
  have hw1 := w64_of wf1
  have lt2 : ∀ x ∈ p2, x.block < W.heap.size := by obtain ⟨m, hm⟩ := h2; exact DataW.trod_lt m _ _ _ hm
  obtain ⟨a2, pa2, n2, c2, xs2, m2, L2, rfl, hI2, hm2, hRV2, hA2, hg2, hnc2, hmx2, _, hbk2⟩ := open_slice Try.underlying22 (by kernel_rfl) cc_ok open_cust cust_self h2 (hval 2 _ _ rfl rfl) In.empty
  have hn2 : n2 ≤ 140737488355328 := Nat.le_trans hnc2 (cap_le hsz (j := 2) hmx2 rfl rfl Try.underlying22 (by kernel_rfl))
  have hT2 : VR (bare (· < _) _) (listV cV xs2) _ := tree_of hA2 hnc2 (fun _ => rfl) (fun _ => rfl) (fun _ => rfl) hbk2
  obtain ⟨v, H', hcall, rfl⟩ := (laws_FnExactWithRoom_v t0 t1 xs2 (hA2.len ▸ hn2)).yes rfl (by simp only [pureL, custsV_pure]; rfl) (.cons _ _ _ _ (.sc _ rfl) (.cons _ _ _ _ (.sc _ rfl) (.cons _ _ _ _ hT2 .nil)))
  refine (calls_pm hI2 (RL.cons (.int _ _) (RL.cons (.int _ _) (RL.cons hRV2 (RL.nil m2)))) hcall).mono fun e W' he => ?_
  obtain ⟨m', rv, rfl, hrv, bel⟩ := he
  cases hrv
  exact ⟨_, rfl, _, _, _, [], _, [], hW', trodAll_mk1 (shut_bool Try.underlying4 _), (trodAll_cons_mk (shut_int Try.underlying2 wf0) (trodAll_cons_mk (shut_int Try.underlying2 wf1) (trodAll_cons_mk (Below.trod laidOut (by kernel_rfl) (of_decide_eq_true (by kernel_rfl)) h2 bel lt2) trodAll_mk0))), rfl, bel.frame _, fun h => by cases h⟩

theorem FnExactWithRoom_holds : Rows.FnExactWithRoomSaid :=
  OpenClaim.holds_of_wide 3 Try.f3 rfl rfl rfl rfl rfl rfl rfl ⟨rfl, rfl, rfl, rfl, rfl⟩ rfl rfl rfl rfl rfl (by kernel_rfl) Try.func3 (by kernel_rfl)
    (of_decide_eq_true (by kernel_rfl)) (by unfold Func.isWrapper; first | (rw [if_pos (by decide +kernel)]; kernel_rfl) | (rw [if_neg (by decide +kernel)]; exact ⟨rfl, rfl⟩))
    (fun os started T enc _ => lifted os started T enc)
end Go.Proofs.Ythoncidphopjjaa
