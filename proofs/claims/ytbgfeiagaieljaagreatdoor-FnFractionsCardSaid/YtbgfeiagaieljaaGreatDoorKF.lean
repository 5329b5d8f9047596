/- The program's FnFractions returns what the reference's returns, for all arguments: the statement FnFractions holds. -/
import Derived.Test.YtbgfeiagaieljaaGreatDoorCards
import Derived.Test.YtbgfeiagaieljaaGreatDoorTie
import Derived.SevenTiedAt
import Derived.Test.YtbgfeiagaieljaaGreatDoorKFl
set_option linter.unusedSimpArgs false
set_option linter.unusedVariables false
namespace Go.Proofs.YtbgfeiagaieljaaGreatDoor
open Go.ChangeShapes Go.WideShapes Go.ChangeAt Go.RowKit Go.PM
theorem door_met (os : Os) (args : Array Value) : laidMetH Tryz.prog Rows.fnFractionsRow.laid ((World.doorLaid Tryz.prog 62 os).forCall (fun _ _ => 0) ⟨#[], args, []⟩).memory := by
  rw [MakeChecks.laidMetH_plain _ _ _ (by kernel_rfl)]
  exact laidMet_of_run' 8 (by kernel_rfl) (by kernel_rfl)
theorem glob_in {W : World} (h : laidMetH Tryz.prog Rows.fnFractionsRow.laid W) : GlobIn W :=
  globIn_of_laid h (by kernel_rfl) (by first | exact .tail _ (.tail _ (.head _)) | exact .head _ | exact .tail _ (.head _)) (t := 223) (e := 124) (n := 20) (by kernel_rfl) (by kernel_rfl) (by kernel_rfl) (by kernel_rfl) (by kernel_rfl)
set_option maxRecDepth 100000 in
theorem lifted (os : Os) (started : os.Started) (T : Type) (enc : TypeId × Value → T) :
    ReturnsInHanded {} Tryz.checked os 7 .any (fun w args => (Rows.fnFractionsSpec.pre enc Tryz.prog Tryz.f7 [] false w args ∧ laidMetH Tryz.prog Rows.fnFractionsRow.laid w) ∧ sizedMet enc Tryz.prog Tryz.f7 (OpenSpec.ofChange Rows.fnFractionsSpec) false w args) (Rows.fnFractionsSpec.post enc Tryz.prog Tryz.f7 false true false false) := by
  refine returnsInHanded_of_change_and (C := Tryz.checked) (X := fun w _ => laidMetH Tryz.prog Rows.fnFractionsRow.laid w) (fun _ _ _ hh h => h.of_heap hh) own started (by kernel_rfl) Tryz.func7
    (ChangeSpec.witness_shaped (enc := enc) (C := Tryz.checked) (os := os) (X := fun w _ => laidMetH Tryz.prog Rows.fnFractionsRow.laid w) false (World.doorLaid Tryz.prog 62 os) #[.slice none 0 0, .slice none 0 0] 8 rfl (World.shaped_of_RefB (by kernel_rfl) (by kernel_rfl)) (by kernel_rfl) (by kernel_rfl) (by kernel_rfl) (door_met os _)) ?_
  intro W base args ds gs before hval0 hW hcnd hsz0 hL _
  have hglob := glob_in hL
  have hval : ∀ (j : Nat) t v, Tryz.f7.params[j]? = some t → args[j]? = some v → Value.okWide Tryz.prog W .any base t v := hval0
  have hW' := hW
  obtain ⟨p, q, hA0', hV, rfl, hfz, hnd⟩ := hW
  have hAll : DataW.TrodAll enc Tryz.prog W 0 (fun _ => true) true Tryz.f7.params.toList args.toList ds p := hA0'
  have hsz : (DataW.weightsEach Tryz.prog (Tryz.f7.params.toList ++ Rows.fnFractionsSpec.plain.varTypes Tryz.prog) (ds ++ gs)).all (· ≤ reachBytes) = true := hsz0
  rw [Tryz.params7] at hAll hval hsz
  obtain ⟨v0, vs0, d0, ds0, p0, q0, hargs, rfl, rfl, h0, r0⟩ := trodAll_cons hAll
  obtain ⟨v1, vs1, d1, ds1, p1, q1, rfl, rfl, rfl, h1, r1⟩ := trodAll_cons r0
  obtain ⟨rfl, rfl, rfl⟩ := trodAll_nil r1
  obtain rfl : args = #[v0, v1] := by cases args; simp_all
  obtain ⟨rfl, rfl⟩ := trodVars_none hV
  have lt0 : ∀ x ∈ p0, x.block < W.heap.size := by obtain ⟨m, hm⟩ := h0; exact DataW.trod_lt m _ _ _ hm
  obtain ⟨a0, pa0, n0, c0, xs0, m0, L0, rfl, hI0, hm0, hRV0, hA0, hg0, hnc0, hmx0, _, hbk0⟩ := open_slice Tryz.underlying37 (by kernel_rfl) cb_ok open_byte byte_self h0 (hval 0 _ _ rfl rfl) In.empty
  have hn0 : n0 ≤ 140737488355328 := Nat.le_trans hnc0 (cap_le hsz (j := 0) hmx0 rfl rfl Tryz.underlying37 (by kernel_rfl))
  have hT0 : VR (bare (· < _) _) (listV u8V xs0) _ := tree_of hA0 hnc0 (fun _ => rfl) (fun _ => rfl) (fun _ => rfl) hbk0
  have lt1 : ∀ x ∈ p1, x.block < W.heap.size := by obtain ⟨m, hm⟩ := h1; exact DataW.trod_lt m _ _ _ hm
  obtain ⟨a1, pa1, n1, c1, xs1, m1, L1, rfl, hI1, hm1, hRV1, hA1, hg1, hnc1, hmx1, _, hbk1⟩ := open_slice Tryz.underlying37 (by kernel_rfl) cb_ok open_byte byte_self h1 (hval 1 _ _ rfl rfl) hI0
  have hn1 : n1 ≤ 140737488355328 := Nat.le_trans hnc1 (cap_le hsz (j := 1) hmx1 rfl rfl Tryz.underlying37 (by kernel_rfl))
  have hT1 : VR (bare (· < _) _) (listV u8V xs1) _ := tree_of hA1 hnc1 (fun _ => rfl) (fun _ => rfl) (fun _ => rfl) hbk1
  have hT0 := hT0.grow (L := L1)
  have hRV0 := hRV0.mono hm1
  have hA0 := hA0.pre (List.prefix_append _ L1)
  obtain ⟨v, H', hcall, rfl⟩ := (laws_FnFractions_v xs0 xs1 hg0 hg1).yes rfl (by simp [pureL, byt_pure]) (.cons _ _ _ _ hT0 (.cons _ _ _ _ hT1 .nil))
  refine (calls_pm hI1 (RL.cons hRV0 (RL.cons hRV1 (RL.nil m1))) hcall).mono fun e W' he => ?_
  obtain ⟨m', rv, rfl, hrv, bel⟩ := he
  cases hrv
  exact ⟨_, rfl, _, _, _, [], _, [], hW', trodAll_mk1 (shut_bool Tryz.underlying4 _), (trodAll_cons_mk (Below.trod laidOut (by kernel_rfl) (of_decide_eq_true (by kernel_rfl)) h0 bel lt0) (trodAll_cons_mk (Below.trod laidOut (by kernel_rfl) (of_decide_eq_true (by kernel_rfl)) h1 bel lt1) trodAll_mk0)), rfl, bel.frame _, fun h => by cases h⟩
theorem row_holds : Rows.FnFractionsSaid :=
  OpenClaim.holds_of_wide 7 Tryz.f7 rfl rfl rfl rfl rfl rfl rfl ⟨rfl, rfl, rfl, rfl, rfl⟩ rfl rfl rfl rfl rfl (by kernel_rfl) Tryz.func7 (by kernel_rfl)
    (of_decide_eq_true (by kernel_rfl)) (by unfold Func.isWrapper; first | (rw [if_pos (by decide +kernel)]; kernel_rfl) | (rw [if_neg (by decide +kernel)]; exact ⟨rfl, rfl⟩))
    (fun os started T enc _ => lifted os started T enc)
theorem FnFractions_holds : Rows.FnFractionsCardSaid :=
  Claim7.holds_tied_plain_at .later [] [.data, .data, .data, .sentinel, .sentinel] true (true, "6754f4af7f7e3e0b60c56bd4b125d34bc08ba48986f0ff89ed86e4fd9224a6f9") true
    row_holds (fun _ h => by cases h) (by kernel_rfl) (fun _ h => by cases h) fnFractions_row_tie rfl ⟨rfl, rfl⟩ (by kernel_rfl) rfl
    (fun f fn hf hfn => by
      obtain rfl : f = 7 := Option.some.inj ((show Tryz.prog.funcNamed "loop.example/g01211/laws.FnFractions" = some 7 by kernel_rfl).symm.trans hf) |>.symm
      obtain rfl : fn = Tryz.f7 := (Option.some.inj (Tryz.func7.symm.trans hfn)).symm
      exact ⟨by kernel_rfl, fun j t ht => by
        rw [Tryz.params7] at ht
        have hm : t ∈ [37, 37] := by simpa using Array.mem_of_getElem? ht
        have hall : ([37, 37].all fun u => !Tryz.prog.wantsStandIn u) = true := by kernel_rfl
        exact (show Tryz.prog.wantsStandIn t = false by simpa using List.all_eq_true.1 hall t hm)⟩)
    (by kernel_rfl)
end Go.Proofs.YtbgfeiagaieljaaGreatDoor
