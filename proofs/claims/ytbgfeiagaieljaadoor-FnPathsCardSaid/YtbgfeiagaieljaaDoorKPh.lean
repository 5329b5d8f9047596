/- Texts of a claim, in one: part 8. -/
import Derived.KernelRfl
import Derived.Test.YtbgfeiagaieljaaDoorKPg

/- Who starts when: the program, walked. -/
set_option linter.unusedSimpArgs false
set_option linter.unusedVariables false
namespace Go.PM
structure StSys (rule srv room : Int) (cs : List Cust) where
  I : Nat → Nat → List Nat → List Int → List Int → Prop
  A : Nat → Int → Nat → List Nat → List Int → List Int → Prop
  S : Nat → Int → Nat → List Nat → List Int → List Int → Prop
  bI : ∀ {m come ws ends st}, I m come ws ends st → come ≤ cs.length ∧ st.length = cs.length ∧ ws.length ≤ 24 ∧ ends.length ≤ 24
  bA : ∀ {m now come ws ends st}, A m now come ws ends st → come ≤ cs.length ∧ st.length = cs.length ∧ ws.length ≤ 24 ∧ ends.length ≤ 24
  bS : ∀ {m now come ws ends st}, S m now come ws ends st → come ≤ cs.length ∧ st.length = cs.length ∧ ws.length ≤ 24 ∧ ends.length ≤ 24 ∧ (∀ i ∈ ws, i < cs.length) ∧ (0 ≤ now ∧ now ≤ 100000)
  start : ∃ m, I m 0 [] [] (List.replicate cs.length (-1))
  toA : ∀ {m come ws ends st}, I m come ws ends st → come < cs.length ∨ 0 < ws.length → A m (nowN cs come ws ends) come ws (ends.filter (gtB (nowN cs come ws ends))) st
  stepA : ∀ {m now come ws ends st}, A m now come ws ends st → come < cs.length → atC cs come = now → A m now (come + 1) (if (ws.length : Int) + (ends.length : Int) < room then ws ++ [come] else ws) ends st
  toS : ∀ {m now come ws ends st}, A m now come ws ends st → ¬ (come < cs.length ∧ atC cs come = now) → S m now come ws ends st
  stepS : ∀ {m now come ws ends st}, S m now come ws ends st → (ends.length : Int) < srv → 0 < ws.length → ∃ k, ws[nextP rule cs ws]? = some k ∧ S m now come (ws.eraseIdx (nextP rule cs ws)) (ends ++ [now + wkC cs k]) (st.set k now)
  toI : ∀ {m now come ws ends st}, S m now come ws ends st → ¬ ((ends.length : Int) < srv ∧ 0 < ws.length) → ∃ m', m' < m ∧ I m' come ws ends st
def stH (st : List Int) (g1 : Nat) (wall : List Nat) (g2 : Nat) (eall : List Int) : VHeap :=
  [.row 0 (st.map nV) 1 true, .row g1 (wall.map kV) 1 true, .row g2 (eall.map nV) 1 true]
structure StE (rule srv room : Int) (cs : List Cust) (n g1 k1 c1 g2 k2 c2 come : Nat) (ρ : VEnv) : Prop where
  r0 : ρ 0 = VI rule
  r1 : ρ 1 = VI srv
  r2 : ρ 2 = VI room
  r3 : ρ 3 = custsV cs
  r9 : ρ 9 = .ref n 0 0 cs.length cs.length
  r10 : ρ 10 = .ref (n + 1) g1 0 k1 c1
  r11 : ρ 11 = .ref (n + 2) g2 0 k2 c2
  r12 : ρ 12 = VI come
structure Part {α : Type} (all xs : List α) : Prop where
  le : xs.length ≤ all.length
  tk : all.take xs.length = xs
theorem Part.get {α : Type} {all xs : List α} (h : Part all xs) {i : Nat} {x : α} (hx : xs[i]? = some x) : all[i]? = some x := by
  rw [← h.tk, List.getElem?_take] at hx
  split at hx
  · exact hx
  · cases hx
theorem Part.fz {α : Type} {f : α → VV} {e b g : Nat} {all xs : List α} {w : Bool} {H : VHeap} (h : Part all xs) (hp : ∀ x, pureV (f x) = true) (hr : vrow H b g = some (all.map f, e, w)) : fz depth H (.ref b g 0 xs.length all.length) = some (listV f xs) := by
  rw [fz_rowP hr (by rw [List.length_map]; exact h.le) h.le (pure_map hp), ← List.map_take, h.tk]
set_option maxHeartbeats 1000000 in
theorem impl_starts_b0_w {rule srv room : Int} {cs : List Cust} {n lo g1 g2 come : Nat} {ws wall : List Nat} {ends eall st : List Int} {b : Int} {ρ : VEnv} (hlo : lo ≤ n) (hE : StE rule srv room cs n g1 ws.length wall.length g2 ends.length eall.length come ρ) (h13 : ρ 13 = .ptr (n + 3) 0 0 0)
    (h42 : ρ 42 = .ref (n + 2) g2 0 ends.length eall.length) (h43 : ρ 43 = VI ends.length) (h44 : ρ 44 = VI 0) (he : Part eall ends) (hn : ends.length ≤ 24) :
    VW ⟨true, false⟩ lo (.block 2 (.loop impl_starts_b0)) (fun e ρ' H => e = .normal ∧ (StE rule srv room cs n g1 ws.length wall.length g2 ends.length eall.length come ρ' ∧ ρ' 13 = .ptr (n + 3) 0 0 0) ∧
      H = List.replicate n .dead ++ (stH st g1 wall g2 eall ++ [VBlk.row 0 [VI (ends.foldl (mnF (decide (0 < ws.length))) b)] 1 true])) ρ (List.replicate n .dead ++ (stH st g1 wall g2 eall ++ [VBlk.row 0 [VI b] 1 true])) := by
  rw [VW_block]
  refine VW_loop (fun (i : Nat) ρ' H => i ≤ ends.length ∧ StE rule srv room cs n g1 ws.length wall.length g2 ends.length eall.length come ρ' ∧ ρ' 13 = .ptr (n + 3) 0 0 0 ∧ ρ' 42 = .ref (n + 2) g2 0 ends.length eall.length ∧ ρ' 43 = VI ends.length ∧ ρ' 44 = VI i ∧
    H = List.replicate n .dead ++ (stH st g1 wall g2 eall ++ [VBlk.row 0 [VI ((ends.take i).foldl (mnF (decide (0 < ws.length))) b)] 1 true])) (fun i => ends.length - i) 0 ⟨Nat.zero_le _, hE, h13, h42, h43, h44, by rw [List.take_zero]; rfl⟩ ?_
  clear hE h13 h42 h43 h44 ρ
  rintro i ρ H ⟨hi, ⟨h0, h1, h2, h3, h9, h10, h11, h12⟩, h13, h42, h43, h44, rfl⟩
  by_cases hin : (i : Int) < (ends.length : Int)
  · obtain ⟨x, hx⟩ : ∃ x, ends[i]? = some x := ⟨_, List.getElem?_eq_getElem (by omega)⟩
    have hxa : (eall.map nV)[i]? = some (VI x) := by rw [List.getElem?_map, he.get hx]; rfl
    have hge : (0 : Int) ≤ (i : Int) := by omega
    have wi : IntKind.i64.wrap ((i : Int) + 1) = ((i + 1 : Nat) : Int) := wrapN (i + 1) (by omega) (by omega)
    have hstep : (ends.take (i + 1)).foldl (mnF (decide (0 < ws.length))) b = mnF (decide (0 < ws.length)) ((ends.take i).foldl (mnF (decide (0 < ws.length))) b) x := by
      rw [List.take_add_one, hx, List.foldl_append]
      rfl
    generalize (ends.take i).foldl (mnF (decide (0 < ws.length))) b = y at *
    have rds : ∀ v : Int, rdCells false 1 (VI v) 0 = some (VI v) := fun _ => rfl
    have hlo3 : lo ≤ n + 3 := by omega
    have hm : mnF (decide (0 < ws.length)) y x = if y < 0 ∨ (decide (0 < ws.length) = true ∧ x < y) then x else y := rfl
    rw [hm] at hstep
    by_cases q1 : y < 0
    · rw [if_pos (.inl q1)] at hstep
      simp only [impl_starts_b0, stH, h0, h1, h2, h3, h9, h10, h11, h12, h13, h42, h43, h44, hin, hge, hxa, rds, wi, q1, hlo3, List.cons_append, List.nil_append, List.getElem?_cons_zero, VX, Nat.reduceEqDiff, Nat.reduceAdd, vload_pdef, vstore_pdef, viaddr_rdef, vlen_rdef, vfaddr_pdef, vchk_pdef, visnil_rdef, visnil_nil, visnil_cons, vrow_zero, vrow_succ, List.set_cons_zero, List.set_cons_succ, elemOf_one, elemOf_two, vresult, vresAll, vres1, vfill, isAny_sc, isAny_tree, isAny_ref, isAny_agg, isAny_clo, List.take_zero, List.take_succ_cons, List.take_nil, List.drop_zero, List.drop_succ_cons, List.drop_nil, List.append_nil, Nat.reduceLeDiff, Nat.le_refl, vsplice, Nat.reduceLT, Int.toNat_natCast, eq_self, ge_iff_le, Bool.and_eq_true, Nat.reduceSub, vrow_D0, vrow_Dk, set_D0, set_Dk, len_D, List.append_assoc, Nat.le_add_right, take_Dk, take_D0, List.length_replicate]
      refine ⟨i + 1, by omega, by omega, ⟨?_, ?_, ?_, ?_, ?_, ?_, ?_, ?_⟩, ?_⟩
      all_goals first | (simp only [h0, h1, h2, h3, h9, h10, h11, h12, VX, Nat.reduceEqDiff, Nat.reduceAdd]; done) | skip
      rw [hstep]
      (repeat' apply And.intro) <;> first | rfl | trivial
    · by_cases q2 : (0 : Int) < (ws.length : Int)
      · by_cases q3 : x < y
        · rw [if_pos (.inr ⟨decide_eq_true (by omega), q3⟩)] at hstep
          simp only [impl_starts_b0, stH, h0, h1, h2, h3, h9, h10, h11, h12, h13, h42, h43, h44, hin, hge, hxa, rds, wi, q1, q2, q3, hlo3, List.cons_append, List.nil_append, List.getElem?_cons_zero, VX, Nat.reduceEqDiff, Nat.reduceAdd, vload_pdef, vstore_pdef, viaddr_rdef, vlen_rdef, vfaddr_pdef, vchk_pdef, visnil_rdef, visnil_nil, visnil_cons, vrow_zero, vrow_succ, List.set_cons_zero, List.set_cons_succ, elemOf_one, elemOf_two, vresult, vresAll, vres1, vfill, isAny_sc, isAny_tree, isAny_ref, isAny_agg, isAny_clo, List.take_zero, List.take_succ_cons, List.take_nil, List.drop_zero, List.drop_succ_cons, List.drop_nil, List.append_nil, Nat.reduceLeDiff, Nat.le_refl, vsplice, Nat.reduceLT, Int.toNat_natCast, eq_self, ge_iff_le, Bool.and_eq_true, Nat.reduceSub, vrow_D0, vrow_Dk, set_D0, set_Dk, len_D, List.append_assoc, Nat.le_add_right, take_Dk, take_D0, List.length_replicate]
          refine ⟨i + 1, by omega, by omega, ⟨?_, ?_, ?_, ?_, ?_, ?_, ?_, ?_⟩, ?_⟩
          all_goals first | (simp only [h0, h1, h2, h3, h9, h10, h11, h12, VX, Nat.reduceEqDiff, Nat.reduceAdd]; done) | skip
          rw [hstep]
          (repeat' apply And.intro) <;> first | rfl | trivial
        · rw [if_neg (by omega)] at hstep
          simp only [impl_starts_b0, stH, h0, h1, h2, h3, h9, h10, h11, h12, h13, h42, h43, h44, hin, hge, hxa, rds, wi, q1, q2, q3, hlo3, List.cons_append, List.nil_append, List.getElem?_cons_zero, VX, Nat.reduceEqDiff, Nat.reduceAdd, vload_pdef, vstore_pdef, viaddr_rdef, vlen_rdef, vfaddr_pdef, vchk_pdef, visnil_rdef, visnil_nil, visnil_cons, vrow_zero, vrow_succ, List.set_cons_zero, List.set_cons_succ, elemOf_one, elemOf_two, vresult, vresAll, vres1, vfill, isAny_sc, isAny_tree, isAny_ref, isAny_agg, isAny_clo, List.take_zero, List.take_succ_cons, List.take_nil, List.drop_zero, List.drop_succ_cons, List.drop_nil, List.append_nil, Nat.reduceLeDiff, Nat.le_refl, vsplice, Nat.reduceLT, Int.toNat_natCast, eq_self, ge_iff_le, Bool.and_eq_true, Nat.reduceSub, vrow_D0, vrow_Dk, set_D0, set_Dk, len_D, List.append_assoc, Nat.le_add_right, take_Dk, take_D0, List.length_replicate]
          refine ⟨i + 1, by omega, by omega, ⟨?_, ?_, ?_, ?_, ?_, ?_, ?_, ?_⟩, ?_⟩
          all_goals first | (simp only [h0, h1, h2, h3, h9, h10, h11, h12, VX, Nat.reduceEqDiff, Nat.reduceAdd]; done) | skip
          rw [hstep]
          (repeat' apply And.intro) <;> first | rfl | trivial
      · rw [if_neg (by rw [decide_eq_false (by omega : ¬ 0 < ws.length)]; simp; omega)] at hstep
        simp only [impl_starts_b0, stH, h0, h1, h2, h3, h9, h10, h11, h12, h13, h42, h43, h44, hin, hge, hxa, rds, wi, q1, q2, hlo3, List.cons_append, List.nil_append, List.getElem?_cons_zero, VX, Nat.reduceEqDiff, Nat.reduceAdd, vload_pdef, vstore_pdef, viaddr_rdef, vlen_rdef, vfaddr_pdef, vchk_pdef, visnil_rdef, visnil_nil, visnil_cons, vrow_zero, vrow_succ, List.set_cons_zero, List.set_cons_succ, elemOf_one, elemOf_two, vresult, vresAll, vres1, vfill, isAny_sc, isAny_tree, isAny_ref, isAny_agg, isAny_clo, List.take_zero, List.take_succ_cons, List.take_nil, List.drop_zero, List.drop_succ_cons, List.drop_nil, List.append_nil, Nat.reduceLeDiff, Nat.le_refl, vsplice, Nat.reduceLT, Int.toNat_natCast, eq_self, ge_iff_le, Bool.and_eq_true, Nat.reduceSub, vrow_D0, vrow_Dk, set_D0, set_Dk, len_D, List.append_assoc, Nat.le_add_right, take_Dk, take_D0, List.length_replicate]
        refine ⟨i + 1, by omega, by omega, ⟨?_, ?_, ?_, ?_, ?_, ?_, ?_, ?_⟩, ?_⟩
        all_goals first | (simp only [h0, h1, h2, h3, h9, h10, h11, h12, VX, Nat.reduceEqDiff, Nat.reduceAdd]; done) | skip
        rw [hstep]
        (repeat' apply And.intro) <;> first | rfl | trivial
  · have hie : i = ends.length := by omega
    subst hie
    simp only [impl_starts_b0, h43, h44, hin, VX, Nat.reduceEqDiff, Nat.reduceAdd]
    rw [List.take_of_length_le (Nat.le_refl _)]
    exact ⟨⟨⟨by simp only [h0, VX, Nat.reduceEqDiff, Nat.reduceAdd], by simp only [h1, VX, Nat.reduceEqDiff, Nat.reduceAdd], by simp only [h2, VX, Nat.reduceEqDiff, Nat.reduceAdd], by simp only [h3, VX, Nat.reduceEqDiff, Nat.reduceAdd], by simp only [h9, VX, Nat.reduceEqDiff, Nat.reduceAdd], by simp only [h10, VX, Nat.reduceEqDiff, Nat.reduceAdd], by simp only [h11, VX, Nat.reduceEqDiff, Nat.reduceAdd], by simp only [h12, VX, Nat.reduceEqDiff, Nat.reduceAdd]⟩, by simp only [h13, VX, Nat.reduceEqDiff, Nat.reduceAdd]⟩, rfl⟩
set_option maxHeartbeats 1000000 in
theorem impl_starts_b1_w {rule srv room : Int} {cs : List Cust} (Y : StSys rule srv room cs) (hc : custsOk cs) {n lo m g1 g2 come : Nat} {ws wall : List Nat} {ends eall st : List Int} {now : Int} {ρ : VEnv} (hlo : lo ≤ n) (hA : Y.A m now come ws ends st) (hE : StE rule srv room cs n g1 ws.length wall.length g2 ends.length eall.length come ρ) (h13 : ρ 13 = .ptr (n + 3) 0 0 0) (hw : Part wall ws) :
    VW ⟨true, false⟩ lo (.block 4 (.loop impl_starts_b1)) (fun e ρ' H => e = .normal ∧ ∃ come' ws' g1' wall', Y.S m now come' ws' ends st ∧ Part wall' ws' ∧ StE rule srv room cs n g1' ws'.length wall'.length g2 ends.length eall.length come' ρ' ∧ ρ' 13 = .ptr (n + 3) 0 0 0 ∧
      H = List.replicate n .dead ++ (stH st g1' wall' g2 eall ++ [VBlk.row 0 [VI now] 1 true])) ρ (List.replicate n .dead ++ (stH st g1 wall g2 eall ++ [VBlk.row 0 [VI now] 1 true])) := by
  rw [VW_block]
  refine VW_loop (fun (s : Nat × List Nat × Nat × List Nat) ρ' H => Y.A m now s.1 s.2.1 ends st ∧ Part s.2.2.2 s.2.1 ∧ StE rule srv room cs n s.2.2.1 s.2.1.length s.2.2.2.length g2 ends.length eall.length s.1 ρ' ∧ ρ' 13 = .ptr (n + 3) 0 0 0 ∧
    H = List.replicate n .dead ++ (stH st s.2.2.1 s.2.2.2 g2 eall ++ [VBlk.row 0 [VI now] 1 true])) (fun s => cs.length - s.1) (come, ws, g1, wall) ⟨hA, hw, hE, h13, rfl⟩ ?_
  clear hA hw hE h13 ρ
  rintro ⟨come, ws, g1, wall⟩ ρ H ⟨hA, hw, ⟨h0, h1, h2, h3, h9, h10, h11, h12⟩, h13, rfl⟩
  simp only at hA hw h10 h12
  obtain ⟨hcl, hsl, hwl, hel⟩ := Y.bA hA
  have hlen := hc.2
  by_cases hin : (come : Int) < (cs.length : Int)
  · have hcl' : come < cs.length := by omega
    obtain ⟨x, hx⟩ : ∃ x, cs[come]? = some x := ⟨_, List.getElem?_eq_getElem hcl'⟩
    have e1 := fun H => viaddr_map (f := cV) (t := .op) (H := H) (size := 3) (k := .i64) hx rfl
    have rds : ∀ v : Int, rdCells false 1 (VI v) 0 = some (VI v) := fun _ => rfl
    by_cases hat : x.t = now
    · have hA' := Y.stepA hA hcl' (by rw [atC_of hx]; exact hat)
      have w1 : IntKind.i64.wrap ((ws.length : Int) + (ends.length : Int)) = (ws.length : Int) + (ends.length : Int) := wrap64 (by omega) (by omega)
      have wi : IntKind.i64.wrap ((come : Int) + 1) = ((come + 1 : Nat) : Int) := wrapN (come + 1) (by omega) (by omega)
      by_cases hr : (ws.length : Int) + (ends.length : Int) < room
      · rw [if_pos hr] at hA'
        obtain ⟨g1', wall', eQ, hk2, htk2⟩ := vappend_part (f := kV) (all := wall) (x := come) (lo := lo) (b := n + 1) (g := g1) (k := ws.length) (e := 1) (bytes := 8) (H := List.replicate n .dead ++ (stH st g1 wall g2 eall ++ [VBlk.row 0 [VI now] 1 true]))
          (by rw [vrow_Dk]; simp only [stH, List.cons_append, vrow_succ, vrow_zero]) hw.le (by omega) (by decide) (by decide) (by omega)
        simp only [stH, List.cons_append, List.nil_append, set_Dk, List.set_cons_succ, List.set_cons_zero] at eQ
        have eL : ∀ H, vlit false [.int .i64 0] 1 [(0, VI come)] H = some (.tree [VI come] (.cl 1), H) := fun H => vlit_one rfl rfl rfl
        have eS : ∀ H, vsource 1 (.tree [VI come] (.cl 1)) H = some [VI come] := fun H => vsource_one rfl rfl
        simp only [impl_starts_b1, stH, h0, h1, h2, h3, h9, h10, h11, h12, h13, hin, e1, rd_cV, rds, hat, eq_self, w1, wi, hr, eL, eS, eQ, cV, List.cons_append, List.nil_append, List.getElem?_cons_zero, VX, Nat.reduceEqDiff, Nat.reduceAdd, vload_pdef, vstore_pdef, viaddr_rdef, vlen_rdef, vfaddr_pdef, vchk_pdef, visnil_rdef, visnil_nil, visnil_cons, vrow_zero, vrow_succ, List.set_cons_zero, List.set_cons_succ, elemOf_one, elemOf_two, vresult, vresAll, vres1, vfill, isAny_sc, isAny_tree, isAny_ref, isAny_agg, isAny_clo, List.take_zero, List.take_succ_cons, List.take_nil, List.drop_zero, List.drop_succ_cons, List.drop_nil, List.append_nil, Nat.reduceLeDiff, Nat.le_refl, vsplice, Nat.reduceLT, Int.toNat_natCast, eq_self, ge_iff_le, Bool.and_eq_true, Nat.reduceSub, vrow_D0, vrow_Dk, set_D0, set_Dk, len_D, List.append_assoc, Nat.le_add_right, take_Dk, take_D0, List.length_replicate]
        refine ⟨(come + 1, ws ++ [come], g1', wall'), by simp only; omega, hA', ⟨by simp; omega, by simp only [List.length_append, List.length_cons, List.length_nil, Nat.zero_add]; rw [htk2, hw.tk]⟩, ⟨?_, ?_, ?_, ?_, ?_, ?_, ?_, ?_⟩, ?_⟩
        all_goals first | (simp only [h0, h1, h2, h3, h9, h10, h11, h12, List.length_append, List.length_cons, List.length_nil, Nat.zero_add, VX, Nat.reduceEqDiff, Nat.reduceAdd]; done) | skip
      · rw [if_neg hr] at hA'
        simp only [impl_starts_b1, stH, h0, h1, h2, h3, h9, h10, h11, h12, h13, hin, e1, rd_cV, rds, hat, eq_self, w1, wi, hr, cV, List.cons_append, List.nil_append, List.getElem?_cons_zero, VX, Nat.reduceEqDiff, Nat.reduceAdd, vload_pdef, vstore_pdef, viaddr_rdef, vlen_rdef, vfaddr_pdef, vchk_pdef, visnil_rdef, visnil_nil, visnil_cons, vrow_zero, vrow_succ, List.set_cons_zero, List.set_cons_succ, elemOf_one, elemOf_two, vresult, vresAll, vres1, vfill, isAny_sc, isAny_tree, isAny_ref, isAny_agg, isAny_clo, List.take_zero, List.take_succ_cons, List.take_nil, List.drop_zero, List.drop_succ_cons, List.drop_nil, List.append_nil, Nat.reduceLeDiff, Nat.le_refl, vsplice, Nat.reduceLT, Int.toNat_natCast, eq_self, ge_iff_le, Bool.and_eq_true, Nat.reduceSub, vrow_D0, vrow_Dk, set_D0, set_Dk, len_D, List.append_assoc, Nat.le_add_right, take_Dk, take_D0, List.length_replicate]
        refine ⟨(come + 1, ws, g1, wall), by simp only; omega, hA', hw, ⟨?_, ?_, ?_, ?_, ?_, ?_, ?_, ?_⟩, ?_⟩
        all_goals first | (simp only [h0, h1, h2, h3, h9, h10, h11, h12, VX, Nat.reduceEqDiff, Nat.reduceAdd]; done) | skip
    · have hS := Y.toS hA fun h => hat (by rw [← atC_of hx]; exact h.2)
      simp only [impl_starts_b1, stH, h0, h1, h2, h3, h9, h10, h11, h12, h13, hin, e1, rd_cV, rds, hat, cV, List.cons_append, List.nil_append, List.getElem?_cons_zero, VX, Nat.reduceEqDiff, Nat.reduceAdd, vload_pdef, vstore_pdef, viaddr_rdef, vlen_rdef, vfaddr_pdef, vchk_pdef, visnil_rdef, visnil_nil, visnil_cons, vrow_zero, vrow_succ, List.set_cons_zero, List.set_cons_succ, elemOf_one, elemOf_two, vresult, vresAll, vres1, vfill, isAny_sc, isAny_tree, isAny_ref, isAny_agg, isAny_clo, List.take_zero, List.take_succ_cons, List.take_nil, List.drop_zero, List.drop_succ_cons, List.drop_nil, List.append_nil, Nat.reduceLeDiff, Nat.le_refl, vsplice, Nat.reduceLT, Int.toNat_natCast, eq_self, ge_iff_le, Bool.and_eq_true, Nat.reduceSub, vrow_D0, vrow_Dk, set_D0, set_Dk, len_D, List.append_assoc, Nat.le_add_right, take_Dk, take_D0, List.length_replicate]
      refine ⟨come, ws, g1, wall, hS, hw, ⟨?_, ?_, ?_, ?_, ?_, ?_, ?_, ?_⟩, ?_⟩
      all_goals first | (simp only [h0, h1, h2, h3, h9, h10, h11, h12, VX, Nat.reduceEqDiff, Nat.reduceAdd]; done) | skip
  · have hS := Y.toS hA fun h => by omega
    simp only [impl_starts_b1, stH, h0, h1, h2, h3, h9, h10, h11, h12, h13, hin, List.cons_append, List.nil_append, VX, Nat.reduceEqDiff, Nat.reduceAdd, vload_pdef, vstore_pdef, viaddr_rdef, vlen_rdef, vfaddr_pdef, vchk_pdef, visnil_rdef, visnil_nil, visnil_cons, vrow_zero, vrow_succ, List.set_cons_zero, List.set_cons_succ, elemOf_one, elemOf_two, vresult, vresAll, vres1, vfill, isAny_sc, isAny_tree, isAny_ref, isAny_agg, isAny_clo, List.take_zero, List.take_succ_cons, List.take_nil, List.drop_zero, List.drop_succ_cons, List.drop_nil, List.append_nil, Nat.reduceLeDiff, Nat.le_refl, vsplice, Nat.reduceLT, Int.toNat_natCast, eq_self, ge_iff_le, Bool.and_eq_true, Nat.reduceSub, vrow_D0, vrow_Dk, set_D0, set_Dk, len_D, List.append_assoc, Nat.le_add_right, take_Dk, take_D0, List.length_replicate]
    refine ⟨come, ws, g1, wall, hS, hw, ⟨?_, ?_, ?_, ?_, ?_, ?_, ?_, ?_⟩, ?_⟩
    all_goals first | (simp only [h0, h1, h2, h3, h9, h10, h11, h12, VX, Nat.reduceEqDiff, Nat.reduceAdd]; done) | skip
set_option maxHeartbeats 2000000 in
theorem impl_starts_b2_w {rule srv room : Int} {cs : List Cust} (Y : StSys rule srv room cs) (hc : custsOk cs) (hr : 0 ≤ rule ∧ rule ≤ 3) {n lo m g1 g2 come : Nat} {ws wall : List Nat} {ends eall st : List Int} {now : Int} {ρ : VEnv} (hlo : lo ≤ n) (hS : Y.S m now come ws ends st) (hE : StE rule srv room cs n g1 ws.length wall.length g2 ends.length eall.length come ρ) (h13 : ρ 13 = .ptr (n + 3) 0 0 0) (hw : Part wall ws) (he : Part eall ends) (hsrv : srv ≤ 8) :
    VW ⟨true, false⟩ lo (.block 6 (.loop impl_starts_b2)) (fun e ρ' H => e = .normal ∧ ∃ ws' ends' st' g1' wall' g2' eall' m', m' < m ∧ Y.I m' come ws' ends' st' ∧ Part wall' ws' ∧ Part eall' ends' ∧ StE rule srv room cs n g1' ws'.length wall'.length g2' ends'.length eall'.length come ρ' ∧ ρ' 13 = .ptr (n + 3) 0 0 0 ∧
      H = List.replicate n .dead ++ (stH st' g1' wall' g2' eall' ++ [.row 0 [VI now] 1 true])) ρ (List.replicate n .dead ++ (stH st g1 wall g2 eall ++ [VBlk.row 0 [VI now] 1 true])) := by
  rw [VW_block]
  refine VW_loop (fun (s : List Nat × List Int × List Int × Nat × List Nat × Nat × List Int) ρ' H => Y.S m now come s.1 s.2.1 s.2.2.1 ∧ Part s.2.2.2.2.1 s.1 ∧ Part s.2.2.2.2.2.2 s.2.1 ∧ StE rule srv room cs n s.2.2.2.1 s.1.length s.2.2.2.2.1.length s.2.2.2.2.2.1 s.2.1.length s.2.2.2.2.2.2.length come ρ' ∧ ρ' 13 = .ptr (n + 3) 0 0 0 ∧
    H = List.replicate n .dead ++ (stH s.2.2.1 s.2.2.2.1 s.2.2.2.2.1 s.2.2.2.2.2.1 s.2.2.2.2.2.2 ++ [.row 0 [VI now] 1 true])) (fun s => s.1.length) (ws, ends, st, g1, wall, g2, eall) ⟨hS, hw, he, hE, h13, rfl⟩ ?_
  clear hS hw he hE h13 ρ
  rintro ⟨ws, ends, st, g1, wall, g2, eall⟩ ρ H ⟨hS, hw, he, ⟨h0, h1, h2, h3, h9, h10, h11, h12⟩, h13, rfl⟩
  simp only at hS hw he h10 h11
  obtain ⟨hcl, hsl, hwl, hel, hwi, hnow⟩ := Y.bS hS
  have hlen := hc.2
  by_cases q1 : (ends.length : Int) < srv
  · by_cases q2 : (0 : Int) < (ws.length : Int)
    · obtain ⟨k, hk, hS'⟩ := Y.stepS hS q1 (by omega)
      have hpl := (List.getElem?_eq_some_iff.1 hk).1
      have hkN := hwi k (List.mem_of_getElem? hk)
      obtain ⟨x, hx⟩ : ∃ x, cs[k]? = some x := ⟨_, List.getElem?_eq_getElem hkN⟩
      have hb := hc.at hx
      rw [wkC_of hx] at hS'
      have e1 := fun H => viaddr_map (f := cV) (t := .op) (H := H) (size := 3) (k := .i64) hx rfl
      have rds : ∀ v : Int, rdCells false 1 (VI v) 0 = some (VI v) := fun _ => rfl
      have r1 : vrow (List.replicate n .dead ++ [.row 0 (st.map nV) 1 true, .row g1 (wall.map kV) 1 true, .row g2 (eall.map nV) 1 true, .row 0 [VI now] 1 true]) (n + 1) g1 = some (wall.map kV, 1, true) := by rw [vrow_Dk]; simp only [vrow_succ, vrow_zero]
      have eN : ∀ lo K, vcallP 31 [VI rule, .ref (n + 1) g1 0 ws.length wall.length, custsV cs] lo (List.replicate n .dead ++ [.row 0 (st.map nV) 1 true, .row g1 (wall.map kV) 1 true, .row g2 (eall.map nV) 1 true, .row 0 [VI now] 1 true]) K = K (VI (nextP rule cs ws)) (List.replicate n .dead ++ [.row 0 (st.map nV) 1 true, .row g1 (wall.map kV) 1 true, .row g2 (eall.map nV) 1 true, .row 0 [VI now] 1 true]) := fun lo K =>
        TC.flat (impl_next_v rule cs ws hr hwi (by omega) (by omega)) rfl (by simp only [pureL, custsV_pure, ids_pure]; rfl) (fz3 (fz_res rfl) (hw.fz (fun _ => rfl) r1) (fz_res (custsV_pure _))) rfl lo K
      have hap : (wall.map kV)[nextP rule cs ws]? = some (VI k) := by rw [List.getElem?_map, hw.get hk]; rfl
      have hge : (0 : Int) ≤ (nextP rule cs ws : Int) := by omega
      have hpl' : (nextP rule cs ws : Int) < (ws.length : Int) := by omega
      have wp : IntKind.i64.wrap ((nextP rule cs ws : Int) + 1) = ((nextP rule cs ws + 1 : Nat) : Int) := wrapN _ (by omega) (by omega)
      simp only [impl_starts_b2, stH, h0, h1, h2, h3, h9, h10, h11, h12, h13, q1, q2, eN, hap, hge, hpl', rds, wp, List.cons_append, List.nil_append, List.getElem?_cons_zero, VX, Nat.reduceEqDiff, Nat.reduceAdd, vload_pdef, vstore_pdef, viaddr_rdef, vlen_rdef, vfaddr_pdef, vchk_pdef, visnil_rdef, visnil_nil, visnil_cons, vrow_zero, vrow_succ, List.set_cons_zero, List.set_cons_succ, elemOf_one, elemOf_two, vresult, vresAll, vres1, vfill, isAny_sc, isAny_tree, isAny_ref, isAny_agg, isAny_clo, List.take_zero, List.take_succ_cons, List.take_nil, List.drop_zero, List.drop_succ_cons, List.drop_nil, List.append_nil, Nat.reduceLeDiff, Nat.le_refl, vsplice, Nat.reduceLT, Int.toNat_natCast, eq_self, ge_iff_le, Bool.and_eq_true, Nat.reduceSub, vrow_D0, vrow_Dk, set_D0, set_Dk, len_D, List.append_assoc, Nat.le_add_right, take_Dk, take_D0, List.length_replicate]
      refine vcall_raw rfl ((slices_Delete_int_v (lo := lo) r1 (by omega) hpl hw.le rfl).mono ?_)
      rintro r H' ⟨wall1, rfl, rfl, hl1, ht1⟩
      have hk0 : (0 : Int) ≤ (k : Int) := by omega
      have hkN' : (k : Int) < (cs.length : Int) := by omega
      have wn : IntKind.i64.wrap (now + x.w) = now + x.w := wrap64 (by omega) (by omega)
      have eO : ∀ (B : VHeap) (v : Int), vstore lo 1 (.ptr n 0 k 0) (VI v) (List.replicate n .dead ++ (.row 0 (st.map nV) 1 true :: B)) = some (List.replicate n .dead ++ (.row 0 ((st.set k v).map nV) 1 true :: B)) := fun B v => by
        have := vstore_map (f := nV) (xs := st) (x := v) (e := 1) (g := 0) (j := k) (b := n) (lo := lo) (H := List.replicate n .dead ++ (.row 0 (st.map nV) 1 true :: B)) (by rw [vrow_D0, vrow_zero]) (by omega) hlo rfl rfl
        rw [set_D0] at this
        exact this
      obtain ⟨g2', eall', eQ, hk2, htk2⟩ := vappend_part (f := nV) (all := eall) (x := now + x.w) (lo := lo) (b := n + 2) (g := g2) (k := ends.length) (e := 1) (bytes := 8) (H := List.replicate n .dead ++ [.row 0 ((st.set k now).map nV) 1 true, .row g1 (wall1.map kV) 1 true, .row g2 (eall.map nV) 1 true, .row 0 [VI now] 1 true])
        (by rw [vrow_Dk]; simp only [vrow_succ, vrow_zero]) he.le (by omega) (by decide) (by decide) (by omega)
      simp only [set_Dk, List.set_cons_succ, List.set_cons_zero] at eQ
      have eL : ∀ (v : Int) H, vlit false [.int .i64 0] 1 [(0, VI v)] H = some (.tree [VI v] (.cl 1), H) := fun v H => vlit_one rfl rfl rfl
      have eS : ∀ (v : Int) H, vsource 1 (.tree [VI v] (.cl 1)) H = some [VI v] := fun v H => vsource_one rfl rfl
      have hwle := hw.le
      have hele := he.le
      have hdl : (ws.eraseIdx (nextP rule cs ws)).length = ws.length - 1 := List.length_eraseIdx_of_lt hpl
      simp only [set_Dk, List.set_cons_succ, List.set_cons_zero, h0, h1, h2, h3, h9, h10, h11, h12, h13, hk0, hkN', e1, rd_cV, rds, wn, eO, eL, eS, eQ, cV, List.getElem?_cons_zero, VX, Nat.reduceEqDiff, Nat.reduceAdd, vload_pdef, vstore_pdef, viaddr_rdef, vlen_rdef, vfaddr_pdef, vchk_pdef, visnil_rdef, visnil_nil, visnil_cons, vrow_zero, vrow_succ, List.set_cons_zero, List.set_cons_succ, elemOf_one, elemOf_two, vresult, vresAll, vres1, vfill, isAny_sc, isAny_tree, isAny_ref, isAny_agg, isAny_clo, List.take_zero, List.take_succ_cons, List.take_nil, List.drop_zero, List.drop_succ_cons, List.drop_nil, List.append_nil, Nat.reduceLeDiff, Nat.le_refl, vsplice, Nat.reduceLT, Int.toNat_natCast, eq_self, ge_iff_le, Bool.and_eq_true, Nat.reduceSub, vrow_D0, vrow_Dk, set_D0, set_Dk, len_D, List.append_assoc, Nat.le_add_right, take_Dk, take_D0, List.length_replicate]
      refine ⟨(ws.eraseIdx (nextP rule cs ws), ends ++ [now + x.w], st.set k now, g1, wall1, g2', eall'), by simp only; omega, hS', ⟨by simp only; omega, by simp only; rw [hdl, ht1, hw.tk]⟩, ⟨by simp; omega, by simp only [List.length_append, List.length_cons, List.length_nil, Nat.zero_add]; rw [htk2, he.tk]⟩, ⟨?_, ?_, ?_, ?_, ?_, ?_, ?_, ?_⟩, ?_⟩
      all_goals first | (simp only [h0, h1, h2, h3, h9, h10, h11, h12, hdl, hl1, List.length_append, List.length_cons, List.length_nil, Nat.zero_add, VX, Nat.reduceEqDiff, Nat.reduceAdd]; done) | skip
    · obtain ⟨m', hm, hI⟩ := Y.toI hS fun h => by omega
      simp only [impl_starts_b2, stH, h0, h1, h2, h3, h9, h10, h11, h12, h13, q1, q2, List.cons_append, List.nil_append, VX, Nat.reduceEqDiff, Nat.reduceAdd, vload_pdef, vstore_pdef, viaddr_rdef, vlen_rdef, vfaddr_pdef, vchk_pdef, visnil_rdef, visnil_nil, visnil_cons, vrow_zero, vrow_succ, List.set_cons_zero, List.set_cons_succ, elemOf_one, elemOf_two, vresult, vresAll, vres1, vfill, isAny_sc, isAny_tree, isAny_ref, isAny_agg, isAny_clo, List.take_zero, List.take_succ_cons, List.take_nil, List.drop_zero, List.drop_succ_cons, List.drop_nil, List.append_nil, Nat.reduceLeDiff, Nat.le_refl, vsplice, Nat.reduceLT, Int.toNat_natCast, eq_self, ge_iff_le, Bool.and_eq_true, Nat.reduceSub, vrow_D0, vrow_Dk, set_D0, set_Dk, len_D, List.append_assoc, Nat.le_add_right, take_Dk, take_D0, List.length_replicate]
      refine ⟨ws, ends, st, g1, wall, g2, eall, m', hm, hI, hw, he, ⟨?_, ?_, ?_, ?_, ?_, ?_, ?_, ?_⟩, ?_⟩
      all_goals first | (simp only [h0, h1, h2, h3, h9, h10, h11, h12, VX, Nat.reduceEqDiff, Nat.reduceAdd]; done) | skip
  · obtain ⟨m', hm, hI⟩ := Y.toI hS fun h => q1 h.1
    simp only [impl_starts_b2, stH, h0, h1, h2, h3, h9, h10, h11, h12, h13, q1, List.cons_append, List.nil_append, VX, Nat.reduceEqDiff, Nat.reduceAdd, vload_pdef, vstore_pdef, viaddr_rdef, vlen_rdef, vfaddr_pdef, vchk_pdef, visnil_rdef, visnil_nil, visnil_cons, vrow_zero, vrow_succ, List.set_cons_zero, List.set_cons_succ, elemOf_one, elemOf_two, vresult, vresAll, vres1, vfill, isAny_sc, isAny_tree, isAny_ref, isAny_agg, isAny_clo, List.take_zero, List.take_succ_cons, List.take_nil, List.drop_zero, List.drop_succ_cons, List.drop_nil, List.append_nil, Nat.reduceLeDiff, Nat.le_refl, vsplice, Nat.reduceLT, Int.toNat_natCast, eq_self, ge_iff_le, Bool.and_eq_true, Nat.reduceSub, vrow_D0, vrow_Dk, set_D0, set_Dk, len_D, List.append_assoc, Nat.le_add_right, take_Dk, take_D0, List.length_replicate]
    refine ⟨ws, ends, st, g1, wall, g2, eall, m', hm, hI, hw, he, ⟨?_, ?_, ?_, ?_, ?_, ?_, ?_, ?_⟩, ?_⟩
    all_goals first | (simp only [h0, h1, h2, h3, h9, h10, h11, h12, VX, Nat.reduceEqDiff, Nat.reduceAdd]; done) | skip
def impl_starts_rest : PCode := (.seq (.seq (.reg [⟨(some 42), (.mv (.tmp 11)), none, false, []⟩, ⟨(some 43), (.len (.tmp 42)), none, false, []⟩, ⟨(some 44), (.mv (.const (.int .i64 0))), none, false, []⟩]) (.block 2 (.loop impl_starts_b0))) (.seq (.reg [⟨(some 62), (.mv (.tmp 11)), none, false, []⟩, ⟨(some 63), (.mkfn 30 [(.tmp 13)]), none, false, []⟩, ⟨(some 64), (.call 29 [(.tmp 62), (.tmp 63)]), none, false, []⟩, ⟨(some 11), (.mv (.tmp 64)), none, false, []⟩]) (.seq (.block 4 (.loop impl_starts_b1)) (.block 6 (.loop impl_starts_b2)))))
theorem impl_starts_b3_is : impl_starts_b3 = (.seq (.seq (.reg [⟨(some 24), (.mv (.tmp 12)), none, false, []⟩, ⟨(some 25), (.mv (.tmp 3)), none, false, []⟩, ⟨(some 26), (.len (.tmp 25)), none, false, []⟩, ⟨(some 27), (.bin .lss (.tmp 24) (.tmp 26)), none, false, []⟩, ⟨(some 28), (.mv (.tmp 27)), none, false, []⟩, ⟨(some 29), (.mv (.tmp 10)), (some (28, false)), false, []⟩, ⟨(some 30), (.len (.tmp 29)), (some (28, false)), false, []⟩, ⟨(some 31), (.bin .gtr (.tmp 30) (.const (.int .i64 0))), (some (28, false)), false, []⟩, ⟨(some 32), (.pick (.tmp 28) (.const (.bool true)) (.tmp 31)), none, false, []⟩]) (.cond (.tmp 32) .skip (.exit 0))) (.block 1 (.seq (.reg [⟨(some 13), (.new [(.int .i64 0)]), none, false, []⟩, ⟨none, (.store 1 (.tmp 13) (.const (.int .i64 (-1)))), none, false, []⟩]) (.seq (.seq (.reg [⟨(some 33), (.mv (.tmp 12)), none, false, []⟩, ⟨(some 34), (.mv (.tmp 3)), none, false, []⟩, ⟨(some 35), (.len (.tmp 34)), none, false, []⟩, ⟨(some 36), (.bin .lss (.tmp 33) (.tmp 35)), none, false, []⟩]) (.cond (.tmp 36) (.reg [⟨(some 37), (.mv (.tmp 3)), none, false, []⟩, ⟨(some 38), (.mv (.tmp 12)), none, false, []⟩, ⟨(some 39), (.iaddr 3 (.tmp 37) (.tmp 38)), none, false, []⟩, ⟨(some 40), (.faddr 0 (.tmp 39)), none, false, []⟩, ⟨(some 41), (.load false 1 (.tmp 40)), none, false, []⟩, ⟨none, (.store 1 (.tmp 13) (.tmp 41)), none, false, []⟩]) .skip)) impl_starts_rest)))) := rfl
theorem take_stH {n g1 g2 : Nat} {st eall : List Int} {wall : List Nat} {b : VBlk} : (List.replicate n VBlk.dead ++ (stH st g1 wall g2 eall ++ [b])).take (n + 3) = List.replicate n VBlk.dead ++ stH st g1 wall g2 eall := by
  rw [take_Dk]
  rfl
theorem below_stH {n g1 g2 : Nat} {st eall : List Int} {wall : List Nat} : rowsBelow (n + 3) (List.replicate n VBlk.dead ++ stH st g1 wall g2 eall) = true := by
  rw [below_D]
  unfold stH
  rw [below_row (below_pureL _ (nums_pureL _)), below_row (below_pureL _ (pure_map (f := kV) fun _ => rfl)), below_row (below_pureL _ (nums_pureL _)), below_nil]
theorem StE.scrub {rule srv room : Int} {cs : List Cust} {n g1 k1 c1 g2 k2 c2 come : Nat} {ρ : VEnv} (h : StE rule srv room cs n g1 k1 c1 g2 k2 c2 come ρ) : StE rule srv room cs n g1 k1 c1 g2 k2 c2 come (scrubE (n + 3) ρ) := by
  obtain ⟨h0, h1, h2, h3, h9, h10, h11, h12⟩ := h
  refine ⟨?_, ?_, ?_, ?_, ?_, ?_, ?_, ?_⟩
  · rw [scrubE_app, h0]; rfl
  · rw [scrubE_app, h1]; rfl
  · rw [scrubE_app, h2]; rfl
  · rw [scrubE_app, h3, scrub_of (custsV_pure _)]
  · rw [scrubE_app, h9, scrub_ref (by omega)]
  · rw [scrubE_app, h10, scrub_ref (by omega)]
  · rw [scrubE_app, h11, scrub_ref (by omega)]
  · rw [scrubE_app, h12]; rfl
set_option maxHeartbeats 2000000 in
theorem impl_starts_w {rule srv room : Int} {cs : List Cust} (Y : StSys rule srv room cs) (hc : custsOk cs) (hr : 0 ≤ rule ∧ rule ≤ 3) (hsrv : srv ≤ 8) :
    FC 16 [VI rule, VI srv, VI room, custsV cs] fun n r L => ∃ m come ws ends st, Y.I m come ws ends st ∧ ¬ come < cs.length ∧ ¬ 0 < ws.length ∧ r = .ref n 0 0 cs.length cs.length ∧ L[0]? = some (.row 0 (st.map nV) 1 true) := by
  refine FC.walk ⟨true, false⟩ impl_starts_t (Nat.le_of_ble_eq_true rfl) fun n => ?_
  have hlen := hc.2
  have eL : ∀ H, vlit false [.int .i64 0] 1 [(0, VI (-1))] H = some (.tree [VI (-1)] (.cl 1), H) := fun H => vlit_one rfl rfl rfl
  have e0 := fun H => vlit_nil (H := H) (lr := false) (z := [.int .i64 0]) rfl
  simp only [impl_starts, impl_starts_c, eL, VX, Nat.reduceEqDiff, Nat.reduceAdd, vrow_D0, vrow_Dk, set_D0, set_Dk, len_D, List.append_assoc, Nat.le_add_right, take_Dk, take_D0, List.length_replicate]
  refine FC.call (slices_Repeat_i64_v (-1) cs.length (by omega)) rfl (fz2 (fz_cl rfl) (fz_res rfl)) ?_
  rintro r L ⟨rfl, rfl⟩
  rw [List.length_replicate]
  simp only [e0, List.cons_append, List.nil_append, List.length_cons, List.length_nil, VX, Nat.reduceEqDiff, Nat.reduceAdd, vrow_D0, vrow_Dk, set_D0, set_Dk, len_D, List.append_assoc, Nat.le_add_right, take_Dk, take_D0, List.length_replicate]
  obtain ⟨m0, hI0⟩ := Y.start
  refine VW_loopT (fun (m : Nat) ρ H => ∃ come ws ends st g1 wall g2 eall, Y.I m come ws ends st ∧ Part wall ws ∧ Part eall ends ∧ StE rule srv room cs n g1 ws.length wall.length g2 ends.length eall.length come ρ ∧ H = List.replicate n VBlk.dead ++ stH st g1 wall g2 eall) (fun m => m) m0 ?_ ?_
  · refine ⟨0, [], [], List.replicate cs.length (-1), 0, [], 0, [], hI0, ⟨Nat.le_refl _, rfl⟩, ⟨Nat.le_refl _, rfl⟩, ⟨?_, ?_, ?_, ?_, ?_, ?_, ?_, ?_⟩, rfl⟩
    all_goals simp only [VX, Nat.reduceEqDiff, Nat.reduceAdd]
    all_goals rfl
  rintro m ρ H ⟨come, ws, ends, st, g1, wall, g2, eall, hI, hw, he, ⟨h0, h1, h2, h3, h9, h10, h11, h12⟩, rfl⟩
  obtain ⟨hcl, hsl, hwl, hel⟩ := Y.bI hI
  have r2 : ∀ b, vrow (List.replicate n .dead ++ (stH st g1 wall g2 eall ++ [VBlk.row 0 [VI b] 1 true])) (n + 2) g2 = some (eall.map nV, 1, true) := fun b => by rw [vrow_Dk]; simp only [stH, List.cons_append, vrow_succ, vrow_zero]
  have r3 : ∀ b, vrow (List.replicate n .dead ++ (stH st g1 wall g2 eall ++ [VBlk.row 0 [VI b] 1 true])) (n + 3) 0 = some ([VI b], 1, true) := fun b => by rw [vrow_Dk]; simp only [stH, List.cons_append, List.nil_append, vrow_succ, vrow_zero]
  -- what follows once the tick is looked for
  have rest : ∀ ρ', StE rule srv room cs n g1 ws.length wall.length g2 ends.length eall.length come ρ' → ρ' 13 = .ptr (n + 3) 0 0 0 → (come < cs.length ∨ 0 < ws.length) →
      VW ⟨true, false⟩ n impl_starts_rest
        (fun e ρ' H => e = .normal ∧ ∃ m', m' < m ∧ ∃ come ws ends st g1 wall g2 eall now, Y.I m' come ws ends st ∧ Part wall ws ∧ Part eall ends ∧ StE rule srv room cs n g1 ws.length wall.length g2 ends.length eall.length come ρ' ∧ H = List.replicate n VBlk.dead ++ (stH st g1 wall g2 eall ++ [VBlk.row 0 [VI now] 1 true])) ρ' (List.replicate n .dead ++ (stH st g1 wall g2 eall ++ [VBlk.row 0 [VI (now0 cs come)] 1 true])) := by
    clear h0 h1 h2 h3 h9 h10 h11 h12
    intro ρ' hE h13 hg
    have hA := Y.toA hI hg
    obtain ⟨h0, h1, h2, h3, h9, h10, h11, h12⟩ := hE
    have el := vlen_ref (o := 0) (n := ends.length) (c := eall.length) (r2 (now0 cs come))
    simp only [impl_starts_rest, h11, el, VX, Nat.reduceEqDiff, Nat.reduceAdd]
    refine VW_use (impl_starts_b0_w (ws := ws) (wall := wall) (st := st) (rule := rule) (srv := srv) (room := room) (cs := cs) (come := come) (Nat.le_refl n) ⟨?_, ?_, ?_, ?_, ?_, ?_, ?_, ?_⟩ ?_ ?_ ?_ ?_ he hel) ?_
    all_goals first | (simp only [h0, h1, h2, h3, h9, h10, h11, h12, h13, VX, Nat.reduceEqDiff, Nat.reduceAdd]; done) | skip
    clear h0 h1 h2 h3 h9 h10 h11 h12 h13
    rintro ρ1 H1 ⟨⟨⟨h0, h1, h2, h3, h9, h10, h11, h12⟩, h13⟩, rfl⟩
    change Y.A m (ends.foldl (mnF (decide (0 < ws.length))) (now0 cs come)) come ws (ends.filter (gtB (ends.foldl (mnF (decide (0 < ws.length))) (now0 cs come)))) st at hA
    generalize ends.foldl (mnF (decide (0 < ws.length))) (now0 cs come) = now at *
    simp only [h11, h13, VX, Nat.reduceEqDiff, Nat.reduceAdd]
    refine vcall_raw rfl ((slices_DeleteFunc_i64_v (p := fun x => decide (x ≤ now)) (r2 now) (r3 now) (by omega) (by omega) he.le rfl (by omega) (fun x => impl_starts_1_v x now) rfl).mono ?_)
    rintro r H' ⟨eall1, rfl, rfl, hl1, ht1⟩
    have hfe : (ends.filter fun x => !decide (x ≤ now)) = ends.filter (gtB now) := by
      refine List.filter_congr fun x _ => ?_
      rw [Bool.eq_iff_iff]
      simp [gtB]
    rw [he.tk, hfe] at ht1
    rw [he.tk, hfe]
    have he1 : Part eall1 (ends.filter (gtB now)) := ⟨by
      have := List.length_filter_le (gtB now) ends
      have := he.le
      omega, ht1⟩
    have hH : (List.replicate n VBlk.dead ++ (stH st g1 wall g2 eall ++ [VBlk.row 0 [VI now] 1 true])).set (n + 2) (.row g2 (eall1.map nV) 1 true) = List.replicate n VBlk.dead ++ (stH st g1 wall g2 eall1 ++ [.row 0 [VI now] 1 true]) := by
      rw [set_Dk]
      rfl
    rw [hH]
    simp only [VX, Nat.reduceEqDiff, Nat.reduceAdd]
    refine VW_use (impl_starts_b1_w Y hc (g1 := g1) (wall := wall) (eall := eall1) (Nat.le_refl n) hA ⟨?_, ?_, ?_, ?_, ?_, ?_, ?_, ?_⟩ ?_ hw) ?_
    all_goals first | (simp only [h0, h1, h2, h3, h9, h10, h11, h12, h13, hl1, VX, Nat.reduceEqDiff, Nat.reduceAdd]; done) | skip
    clear h0 h1 h2 h3 h9 h10 h11 h12 h13
    rintro ρ2 H2 ⟨come2, ws2, g12, wall2, hS, hw2, hE2, h13, rfl⟩
    simp only [VX, Nat.reduceEqDiff, Nat.reduceAdd]
    refine VW_use (impl_starts_b2_w Y hc hr (Nat.le_refl n) hS hE2 h13 hw2 he1 hsrv) ?_
    rintro ρ3 H3 ⟨ws3, ends3, st3, g13, wall3, g23, eall3, m', hm, hI3, hw3, he3, hE3, _, rfl⟩
    exact ⟨rfl, m', hm, come2, ws3, ends3, st3, g13, wall3, g23, eall3, now, hI3, hw3, he3, hE3, rfl⟩
  have fin : ∀ ρ', StE rule srv room cs n g1 ws.length wall.length g2 ends.length eall.length come ρ' → ρ' 13 = .ptr (n + 3) 0 0 0 → (come < cs.length ∨ 0 < ws.length) → ∀ (Q : VQ), (∀ ρ' H, (∃ m', m' < m ∧ ∃ come ws ends st g1 wall g2 eall now, Y.I m' come ws ends st ∧ Part wall ws ∧ Part eall ends ∧ StE rule srv room cs n g1 ws.length wall.length g2 ends.length eall.length come ρ' ∧ H = List.replicate n VBlk.dead ++ (stH st g1 wall g2 eall ++ [VBlk.row 0 [VI now] 1 true])) → Q .normal ρ' H) →
      VW ⟨true, false⟩ n impl_starts_rest Q ρ' (List.replicate n .dead ++ (stH st g1 wall g2 eall ++ [VBlk.row 0 [VI (now0 cs come)] 1 true])) := fun ρ' hE h13 hg Q hQ =>
    VW_mono (fun x ρ H h => by obtain ⟨rfl, h⟩ := h; exact hQ ρ H h) (rest ρ' hE h13 hg)
  have hlo3 : n ≤ n + 3 := by omega
  by_cases hin : (come : Int) < (cs.length : Int)
  · have hcl' : come < cs.length := by omega
    obtain ⟨x, hx⟩ : ∃ x, cs[come]? = some x := ⟨_, List.getElem?_eq_getElem hcl'⟩
    have e1 := fun H => viaddr_map (f := cV) (t := .op) (H := H) (size := 3) (k := .i64) hx rfl
    have hn0 : now0 cs come = x.t := by unfold now0; rw [if_pos hcl', atC_of hx]
    simp only [impl_starts_b3_is, stH, h0, h1, h2, h3, h9, h10, h11, h12, hin, e1, rd_cV, cV, hlo3, List.cons_append, List.nil_append, List.length_cons, List.length_nil, List.getElem?_cons_zero, VX, Nat.reduceEqDiff, Nat.reduceAdd, vload_pdef, vstore_pdef, viaddr_rdef, vlen_rdef, vfaddr_pdef, vchk_pdef, visnil_rdef, visnil_nil, visnil_cons, vrow_zero, vrow_succ, List.set_cons_zero, List.set_cons_succ, elemOf_one, elemOf_two, vresult, vresAll, vres1, vfill, isAny_sc, isAny_tree, isAny_ref, isAny_agg, isAny_clo, List.take_zero, List.take_succ_cons, List.take_nil, List.drop_zero, List.drop_succ_cons, List.drop_nil, List.append_nil, Nat.reduceLeDiff, Nat.le_refl, vsplice, Nat.reduceLT, Int.toNat_natCast, eq_self, ge_iff_le, Bool.and_eq_true, Nat.reduceSub, vrow_D0, vrow_Dk, set_D0, set_Dk, len_D, List.append_assoc, Nat.le_add_right, take_Dk, take_D0, List.length_replicate]
    have fin' := fin
    rw [hn0] at fin'
    refine fin' _ ⟨?_, ?_, ?_, ?_, ?_, ?_, ?_, ?_⟩ ?_ (.inl hcl') _ ?_
    all_goals first | (simp only [h0, h1, h2, h3, h9, h10, h11, h12, VX, Nat.reduceEqDiff, Nat.reduceAdd]; done) | skip
    rintro ρ' H ⟨m', hm, come', ws', ends', st', g1', wall', g2', eall', now', hI', hw', he', hE', rfl⟩
    simp only [VX, Nat.reduceEqDiff, Nat.reduceAdd]
    exact ⟨m', hm, by rw [take_stH]; exact below_stH, come', ws', ends', st', g1', wall', g2', eall', hI', hw', he', hE'.scrub, take_stH⟩
  · by_cases hws : (0 : Int) < (ws.length : Int)
    · have hn0 : now0 cs come = -1 := by unfold now0; rw [if_neg (by omega)]
      simp only [impl_starts_b3_is, stH, h0, h1, h2, h3, h9, h10, h11, h12, hin, hws, hlo3, List.cons_append, List.nil_append, List.length_cons, List.length_nil, List.getElem?_cons_zero, VX, Nat.reduceEqDiff, Nat.reduceAdd, vload_pdef, vstore_pdef, viaddr_rdef, vlen_rdef, vfaddr_pdef, vchk_pdef, visnil_rdef, visnil_nil, visnil_cons, vrow_zero, vrow_succ, List.set_cons_zero, List.set_cons_succ, elemOf_one, elemOf_two, vresult, vresAll, vres1, vfill, isAny_sc, isAny_tree, isAny_ref, isAny_agg, isAny_clo, List.take_zero, List.take_succ_cons, List.take_nil, List.drop_zero, List.drop_succ_cons, List.drop_nil, List.append_nil, Nat.reduceLeDiff, Nat.le_refl, vsplice, Nat.reduceLT, Int.toNat_natCast, eq_self, ge_iff_le, Bool.and_eq_true, Nat.reduceSub, vrow_D0, vrow_Dk, set_D0, set_Dk, len_D, List.append_assoc, Nat.le_add_right, take_Dk, take_D0, List.length_replicate]
      have fin' := fin
      rw [hn0] at fin'
      refine fin' _ ⟨?_, ?_, ?_, ?_, ?_, ?_, ?_, ?_⟩ ?_ (.inr (by omega)) _ ?_
      all_goals first | (simp only [h0, h1, h2, h3, h9, h10, h11, h12, VX, Nat.reduceEqDiff, Nat.reduceAdd]; done) | skip
      rintro ρ' H ⟨m', hm, come', ws', ends', st', g1', wall', g2', eall', now', hI', hw', he', hE', rfl⟩
      simp only [VX, Nat.reduceEqDiff, Nat.reduceAdd]
      exact ⟨m', hm, by rw [take_stH]; exact below_stH, come', ws', ends', st', g1', wall', g2', eall', hI', hw', he', hE'.scrub, take_stH⟩
    · simp only [impl_starts_b3_is, stH, h0, h1, h2, h3, h9, h10, h11, h12, hin, hws, List.cons_append, List.nil_append, VX, Nat.reduceEqDiff, Nat.reduceAdd, vload_pdef, vstore_pdef, viaddr_rdef, vlen_rdef, vfaddr_pdef, vchk_pdef, visnil_rdef, visnil_nil, visnil_cons, vrow_zero, vrow_succ, List.set_cons_zero, List.set_cons_succ, elemOf_one, elemOf_two, vresult, vresAll, vres1, vfill, isAny_sc, isAny_tree, isAny_ref, isAny_agg, isAny_clo, List.take_zero, List.take_succ_cons, List.take_nil, List.drop_zero, List.drop_succ_cons, List.drop_nil, List.append_nil, Nat.reduceLeDiff, Nat.le_refl, vsplice, Nat.reduceLT, Int.toNat_natCast, eq_self, ge_iff_le, Bool.and_eq_true, Nat.reduceSub, vrow_D0, vrow_Dk, set_D0, set_Dk, len_D, List.append_assoc, Nat.le_add_right, take_Dk, take_D0, List.length_replicate]
      refine ⟨_, rfl, by simp [ownV], ?_, m, come, ws, ends, st, hI, by omega, by omega, rfl⟩
      simp only [rowsOwn, List.all_cons, List.all_nil, Bool.and_true, Bool.and_eq_true]
      exact ⟨ownL_map (f := nV) (fun _ => rfl) _, ownL_map (f := kV) (fun _ => rfl) _, ownL_map (f := nV) (fun _ => rfl) _⟩
end Go.PM

/- Who starts when: with room for all; the reference, walked. -/
namespace Go.PM
theorem fz4 {H : VHeap} {v v' u u' w w' z z' : VV} (h : fz depth H v = some v') (hu : fz depth H u = some u') (hw : fz depth H w = some w') (hz : fz depth H z = some z') : [v, u, w, z].mapM (fz depth H) = some [v', u', w', z'] := by rw [List.mapM_cons, h, fz3 hu hw hz]; rfl
theorem filt_len {p : Nat → Bool} {a b : Nat} (h : a ≤ b) : ((List.range b).filter p).length ≤ ((List.range a).filter p).length + (b - a) := by
  obtain ⟨d, rfl⟩ : ∃ d, b = a + d := ⟨b - a, by omega⟩
  rw [List.range_add, List.filter_append, List.length_append]
  have := List.length_filter_le p ((List.range d).map fun x => a + x)
  simp only [List.length_map, List.length_range] at this
  omega
structure StA (rule srv : Int) (cs : List Cust) (m : Nat) (now : Int) (come : Nat) (ws : List Nat) (ends st : List Int) (t : Int) (come0 : Nat) (ws0 : List Nat) (ends0 : List Int) : Prop where
  imp : ImpI rule srv cs st t come0 ws0 ends0
  gd : come0 < cs.length ∨ 0 < ws0.length
  ms : m = 2 * (cs.length - come0) + ws0.length
  nw : now = nowN cs come0 ws0 ends0
  c0 : come0 ≤ come
  c1 : come ≤ cs.length
  eq : ∀ i, come0 ≤ i → i < come → atC cs i = now
  wsq : ws = (List.range come).filter (below0 st)
  enq : ends = ends0.filter (gtB now)
theorem StA.bnd {rule srv : Int} {cs : List Cust} {m : Nat} {now : Int} {come : Nat} {ws : List Nat} {ends st : List Int} {t : Int} {come0 : Nat} {ws0 : List Nat} {ends0 : List Int} (h : StA rule srv cs m now come ws ends st t come0 ws0 ends0) : ws.length + ends.length ≤ come ∧ ws.length ≤ ws0.length + (come - come0) ∧ ends.length ≤ ends0.length := by
  have h1 := filt_len (p := below0 st) h.c0
  have h2 := wt_come (st := st) h.imp.cle h.imp.past fun i h3 h4 => (h.imp.fut i h3 h4).1
  rw [← h2, ← h.imp.wsq, ← h.wsq] at h1
  have h3 := List.length_filter_le (gtB now) ends0
  rw [← h.enq] at h3
  have h4 := h.imp.room
  have h5 := h.c0
  omega
structure StS (rule srv : Int) (cs : List Cust) (m : Nat) (now : Int) (come : Nat) (ws : List Nat) (ends st : List Int) (st0 : List Int) (w2 e2 : Nat) : Prop where
  ph : Ph4 rule srv cs st0 now come (w2 + e2) st ws ends
  c1 : come ≤ cs.length
  tc : w2 + e2 ≤ come
  run : runT rule srv cs now (100000 - now).toNat st0 = stL rule srv cs
  wle : ws.length ≤ w2
  ms : 2 * (cs.length - come) + w2 < m ∨ (2 * (cs.length - come) + w2 = m ∧ 0 < w2 ∧ (e2 : Int) < srv)
def stSys {rule srv room : Int} {cs : List Cust} (hc : custsOk cs) (hr : 0 ≤ rule ∧ rule ≤ 3) (hs : 1 ≤ srv) (hroom : 24 ≤ room) : StSys rule srv room cs where
  I m come ws ends st := m = 2 * (cs.length - come) + ws.length ∧ ∃ t, ImpI rule srv cs st t come ws ends
  A m now come ws ends st := ∃ t come0 ws0 ends0, StA rule srv cs m now come ws ends st t come0 ws0 ends0
  S m now come ws ends st := ∃ st0 w2 e2, StS rule srv cs m now come ws ends st st0 w2 e2
  bI := by
    rintro m come ws ends st ⟨_, t, h⟩
    have := hc.2
    have := h.room
    have := h.cle
    exact ⟨h.cle, h.len, by omega, by omega⟩
  bA := by
    rintro m now come ws ends st ⟨t, come0, ws0, ends0, h⟩
    have := hc.2
    have := h.bnd
    have := h.c1
    exact ⟨h.c1, h.imp.len, by omega, by omega⟩
  bS := by
    rintro m now come ws ends st ⟨st0, w2, e2, h⟩
    have := hc.2
    have := h.tc
    have := h.c1
    have := h.ph.tot
    have h1 := h.ph.way.le hc
    have h2 := h.ph.way.tm
    refine ⟨h.c1, h.ph.way.len, by omega, by omega, fun i hi => ?_, h2.1, by omega⟩
    rw [h.ph.wsq] at hi
    exact (wt_mem.1 hi).1
  start := ⟨_, rfl, -1, ImpI.start hc hs⟩
  toA := by
    rintro m come ws ends st ⟨hm, t, h⟩ hg
    refine ⟨t, come, ws, ends, h, hg, hm, rfl, Nat.le_refl _, h.cle, fun i h1 h2 => by omega, ?_, rfl⟩
    rw [← wt_come (st := st) h.cle h.past fun i h3 h4 => (h.fut i h3 h4).1]
    exact h.wsq
  stepA := by
    rintro m now come ws ends st ⟨t, come0, ws0, ends0, h⟩ hlt hat
    have h24 := hc.2
    have hb := h.bnd
    rw [if_pos (by omega)]
    refine ⟨t, come0, ws0, ends0, h.imp, h.gd, h.ms, h.nw, by have := h.c0; omega, by omega, fun i h1 h2 => ?_, ?_, h.enq⟩
    · rcases Nat.lt_or_ge i come with h3 | h3
      · exact h.eq i h1 h3
      · have : i = come := by omega
        subst this
        exact hat
    · rw [List.range_succ, List.filter_append, ← h.wsq]
      have := (h.imp.fut come h.c0 hlt).2
      simp [below0, this]
  toS := by
    rintro m now come ws ends st ⟨t, come0, ws0, ends0, h⟩ hng
    have hb := h.bnd
    obtain ⟨⟨t1, t2⟩, t3, t4, t5⟩ := h.imp.time hc hs h.gd
    rw [← h.nw] at t1 t2 t3 t4 t5
    have later : ∀ i, come ≤ i → i < cs.length → now < atC cs i := fun i h1 h2 => by
      have h3 := hc.sorted h1 h2
      have h4 := t3 come h.c0 (by omega)
      have h5 : atC cs come ≠ now := fun he => hng ⟨by omega, he⟩
      omega
    have hp := h.imp.ph4 hc t1 t2 h.c0 h.c1 h.eq later
    rw [← h.wsq, ← h.enq] at hp
    refine ⟨st, ws.length, ends.length, hp, h.c1, hb.1, t5, Nat.le_refl _, ?_⟩
    have hms := h.ms
    have hc0 := h.c0
    have hc1 := h.c1
    by_cases he : come0 = come
    · subst he
      rcases t4 with ⟨h1, h2⟩ | ⟨h1, h2⟩
      · exact absurd ⟨h1, h2⟩ hng
      · right
        have hw : ws = ws0 := by
          rw [h.wsq, h.imp.wsq, wt_come (st := st) h.imp.cle h.imp.past fun i h3 h4 => (h.imp.fut i h3 h4).1]
        have hlt : (ends0.filter (gtB now)).length < ends0.length := by
          rcases Nat.lt_or_ge (ends0.filter (gtB now)).length ends0.length with h3 | h3
          · exact h3
          · have h4 := List.length_filter_le (gtB now) ends0
            have h5 := (List.length_filter_eq_length_iff (p := gtB now) (l := ends0)).1 (by omega) now h2
            simp [gtB] at h5
        have := h.imp.es
        rw [hw, h.enq]
        exact ⟨by omega, h1, by omega⟩
    · left
      omega
  stepS := by
    rintro m now come ws ends st ⟨st0, w2, e2, h⟩ hb hne
    obtain ⟨k, h1, _, h2, _, h3⟩ := h.ph.step hc hr hb hne
    refine ⟨k, h1, st0, w2, e2, h3, h.c1, h.tc, h.run, ?_, h.ms⟩
    rw [List.length_eraseIdx_of_lt h2]
    have := h.wle
    omega
  toI := by
    rintro m now come ws ends st ⟨st0, w2, e2, h⟩ hng
    have htot := h.ph.tot
    have hwle := h.wle
    refine ⟨2 * (cs.length - come) + ws.length, ?_, rfl, now, h.ph.done hc h.c1 h.tc ?_ h.run⟩
    · rcases h.ms with h1 | ⟨h1, h2, h3⟩
      · omega
      · by_cases hw : 0 < ws.length
        · have : ¬ (ends.length : Int) < srv := fun he => hng ⟨he, hw⟩
          omega
        · omega
    · by_cases hw : 0 < ws.length
      · exact .inl (by have : ¬ (ends.length : Int) < srv := fun he => hng ⟨he, hw⟩; omega)
      · exact .inr (List.eq_nil_of_length_eq_zero (by omega))
theorem stL_len {rule srv : Int} {cs : List Cust} : (stL rule srv cs).length = cs.length := by
  have h1 : ∀ (n : Nat) (t : Int) (st : List Int), (fill rule srv cs t n st).length = st.length := by
    intro n
    induction n with
    | zero => intro t st; rfl
    | succ n ih =>
      intro t st
      rw [fill]
      split
      · split
        · rfl
        · rw [ih, List.length_set]
      · rfl
  have h2 : ∀ (n : Nat) (t : Int) (st : List Int), (runT rule srv cs t n st).length = st.length := by
    intro n
    induction n with
    | zero => intro t st; rfl
    | succ n ih => intro t st; rw [runT, ih, h1]
  unfold stL
  rw [h2, List.length_replicate]
def stR (vals : List Int) (n : Nat) (r : VV) (L : VHeap) : Prop := r = .ref n 0 0 vals.length vals.length ∧ L[0]? = some (.row 0 (vals.map nV) 1 true)
def stR1 (vals : List Int) (n : Nat) (r : VV) (L : VHeap) : Prop := r = .ref n 0 0 vals.length vals.length ∧ L = [.row 0 (vals.map nV) 1 true]
theorem stR1.to {vals : List Int} {n : Nat} {r : VV} {L : VHeap} (h : stR1 vals n r L) : stR vals n r L := ⟨h.1, by rw [h.2]; rfl⟩
end Go.PM

/- Words and small functions of those that ask for a right path. -/
namespace Go.PM
def stOk (rule srv : Int) (cs : List Cust) : Prop := (0 ≤ rule ∧ rule ≤ 3) ∧ (1 ≤ srv ∧ srv ≤ 8) ∧ custsOk cs
noncomputable instance (rule srv : Int) (cs : List Cust) : Decidable (stOk rule srv cs) := Classical.propDecidable _
theorem stL_mem {rule srv : Int} {cs : List Cust} : ∀ s ∈ stL rule srv cs, -1 ≤ s ∧ s ≤ 100000 := by
  have h1 : ∀ (n : Nat) (t : Int) (st : List Int), 0 ≤ t ∧ t ≤ 100000 → (∀ s ∈ st, -1 ≤ s ∧ s ≤ 100000) → ∀ s ∈ fill rule srv cs t n st, -1 ≤ s ∧ s ≤ 100000 := by
    intro n
    induction n with
    | zero => intro t st _ h; exact h
    | succ n ih =>
      intro t st ht h
      rw [fill]
      split
      · split
        · exact h
        · refine ih t _ ht fun s hs => ?_
          rcases List.mem_or_eq_of_mem_set hs with hs | rfl
          · exact h s hs
          · omega
      · exact h
  have h2 : ∀ (n : Nat) (t : Int) (st : List Int), 0 ≤ t → t + n ≤ 100000 → (∀ s ∈ st, -1 ≤ s ∧ s ≤ 100000) → ∀ s ∈ runT rule srv cs t n st, -1 ≤ s ∧ s ≤ 100000 := by
    intro n
    induction n with
    | zero => intro t st _ _ h; exact h
    | succ n ih =>
      intro t st ht hn h
      rw [runT]
      exact ih (t + 1) _ (by omega) (by omega) (h1 _ t st ⟨ht, by omega⟩ h)
  exact h2 _ _ _ (Int.le_refl _) (by simp) fun s hs => by
    have := List.eq_of_mem_replicate hs
    omega
theorem impl_pathOk_v (rule srv : Int) (cs : List Cust) (hn : cs.length ≤ 1000000000) : TC 15 [VI rule, VI srv, custsV cs] (.sc (.bool (decide (stOk rule srv cs)))) := by
  refine TC.walk ⟨true, false⟩ impl_pathOk_t rfl (Nat.le_of_ble_eq_true rfl) (by simp only [pureL, custsV_pure]; rfl) rfl ?_
  have eA := impl_AreCustomers_v cs hn
  unfold stOk
  by_cases h1 : 0 ≤ rule ∧ rule ≤ 3
  · by_cases h2 : 1 ≤ srv ∧ srv ≤ 8
    · by_cases h3 : custsOk cs <;> simp only [impl_pathOk, impl_pathOk_c, impl_in_v, eA, h1, h2, h3, VX, Nat.reduceEqDiff, Nat.reduceAdd] <;> exact fz_res rfl
    · simp only [impl_pathOk, impl_pathOk_c, impl_in_v, h1, h2, VX, Nat.reduceEqDiff, Nat.reduceAdd]
      exact fz_res rfl
  · simp only [impl_pathOk, impl_pathOk_c, impl_in_v, h1, VX, Nat.reduceEqDiff, Nat.reduceAdd]
    exact fz_res rfl
theorem custsOk.mem {cs : List Cust} (h : custsOk cs) {c : Cust} (hc : c ∈ cs) : (0 ≤ c.t ∧ c.t ≤ 10000) ∧ (1 ≤ c.w ∧ c.w ≤ 1000) ∧ (0 ≤ c.k ∧ c.k ≤ 9) := by
  obtain ⟨i, hi⟩ := List.getElem?_of_mem hc
  exact h.at hi
theorem FC.mono {f : Nat} {args : List VV} {R R' : Nat → VV → VHeap → Prop} (h : FC f args R) (hR : ∀ n r L, R n r L → R' n r L) : FC f args R' := fun n => (h n).mono fun _ _ ⟨L, h1, h2, h3, h4⟩ => ⟨L, h1, h2, h3, hR _ _ _ h4⟩
theorem ImpI.all {rule srv : Int} {cs : List Cust} {st : List Int} {t : Int} {come : Nat} {ws : List Nat} {ends : List Int} (h : ImpI rule srv cs st t come ws ends) (hcome : ¬ come < cs.length) (hw : ¬ 0 < ws.length) : ∀ i, i < cs.length → 0 ≤ stC st i := by
  intro i hi
  have hcl := h.cle
  rcases Int.lt_or_le (stC st i) 0 with h1 | h1
  · have h2 : i ∈ wt cs st t := wt_mem.2 ⟨hi, h1, h.past i (by omega)⟩
    rw [← h.wsq, List.eq_nil_of_length_eq_zero (by omega : ws.length = 0)] at h2
    cases h2
  · exact h1
def mvI (g : Cust → Int) : List Cust → List Int → List Int
  | c :: cs, s :: st => (if 0 ≤ s then s + g c else s) :: mvI g cs st
  | _, _ => []
theorem mvI_len {g : Cust → Int} : ∀ {cs : List Cust} {st : List Int}, st.length = cs.length → (mvI g cs st).length = cs.length
  | [], [], _ => rfl
  | c :: cs, s :: st, h => by
    have h' : st.length = cs.length := by simpa using h
    rw [mvI, List.length_cons, mvI_len h', List.length_cons]
theorem mvI_get {g : Cust → Int} : ∀ {cs : List Cust} {st : List Int} {i : Nat} {c : Cust} {s : Int}, cs[i]? = some c → st[i]? = some s → (mvI g cs st)[i]? = some (if 0 ≤ s then s + g c else s)
  | [], _, _, _, _, h, _ => by simp at h
  | _ :: _, [], _, _, _, _, h => by simp at h
  | c :: cs, s :: st, 0, _, _, h1, h2 => by
    injection h1 with h1
    injection h2 with h2
    subst h1; subst h2
    rfl
  | c :: cs, s :: st, i + 1, _, _, h1, h2 => by
    rw [List.getElem?_cons_succ] at h1 h2
    rw [mvI, List.getElem?_cons_succ]
    exact mvI_get h1 h2
end Go.PM

/- Room for some: plain words. -/
namespace Go.PM
section
variable {rule srv room : Int} {cs : List Cust}
theorem StSys.endA (Y : StSys rule srv room cs) : ∀ (d : Nat) {m : Nat} {now : Int} {come : Nat} {ws : List Nat} {ends st : List Int}, cs.length - come ≤ d → Y.A m now come ws ends st → ∃ come' ws', Y.S m now come' ws' ends st := by
  intro d
  induction d with
  | zero =>
    intro m now come ws ends st hd hA
    exact ⟨come, ws, Y.toS hA fun h => by omega⟩
  | succ d ih =>
    intro m now come ws ends st hd hA
    by_cases h : come < cs.length ∧ atC cs come = now
    · exact ih (by omega) (Y.stepA hA h.1 h.2)
    · exact ⟨come, ws, Y.toS hA h⟩
theorem StSys.endS (Y : StSys rule srv room cs) : ∀ (d : Nat) {m : Nat} {now : Int} {come : Nat} {ws : List Nat} {ends st : List Int}, ws.length ≤ d → Y.S m now come ws ends st → ∃ m' ws' ends' st', m' < m ∧ Y.I m' come ws' ends' st' := by
  intro d
  induction d with
  | zero =>
    intro m now come ws ends st hd hS
    obtain ⟨m', h1, h2⟩ := Y.toI hS fun h => by omega
    exact ⟨m', ws, ends, st, h1, h2⟩
  | succ d ih =>
    intro m now come ws ends st hd hS
    by_cases h : (ends.length : Int) < srv ∧ 0 < ws.length
    · obtain ⟨k, h1, h2⟩ := Y.stepS hS h.1 h.2
      refine ih ?_ h2
      rw [List.length_eraseIdx_of_lt (List.getElem?_eq_some_iff.1 h1).1]
      omega
    · obtain ⟨m', h1, h2⟩ := Y.toI hS h
      exact ⟨m', ws, ends, st, h1, h2⟩
theorem StSys.reach (Y : StSys rule srv room cs) : ∃ m come ws ends st, Y.I m come ws ends st ∧ ¬ come < cs.length ∧ ¬ 0 < ws.length := by
  obtain ⟨m0, h0⟩ := Y.start
  have key : ∀ (d : Nat) {m come ws ends st}, m ≤ d → Y.I m come ws ends st → ∃ m come ws ends st, Y.I m come ws ends st ∧ ¬ come < cs.length ∧ ¬ 0 < ws.length := by
    intro d
    induction d with
    | zero =>
      intro m come ws ends st hd hI
      by_cases hg : come < cs.length ∨ 0 < ws.length
      · obtain ⟨come', ws', hS⟩ := Y.endA _ (Nat.le_refl _) (Y.toA hI hg)
        obtain ⟨m', ws'', ends', st', h1, h2⟩ := Y.endS _ (Nat.le_refl _) hS
        omega
      · exact ⟨m, come, ws, ends, st, hI, fun h => hg (.inl h), fun h => hg (.inr h)⟩
    | succ d ih =>
      intro m come ws ends st hd hI
      by_cases hg : come < cs.length ∨ 0 < ws.length
      · obtain ⟨come', ws', hS⟩ := Y.endA _ (Nat.le_refl _) (Y.toA hI hg)
        obtain ⟨m', ws'', ends', st', h1, h2⟩ := Y.endS _ (Nat.le_refl _) hS
        exact ih (by omega) h2
      · exact ⟨m, come, ws, ends, st, hI, fun h => hg (.inl h), fun h => hg (.inr h)⟩
  exact key m0 (Nat.le_refl _) h0
theorem stL_pos (hc : custsOk cs) (hr : 0 ≤ rule ∧ rule ≤ 3) (hs : 1 ≤ srv) : ∀ i, i < cs.length → 0 ≤ stC (stL rule srv cs) i := by
  obtain ⟨m, come, ws, ends, st, ⟨_, t, hI⟩, h1, h2⟩ := (stSys hc hr hs (Int.le_refl 24)).reach
  rw [← hI.done h1 h2]
  exact hI.all h1 h2
theorem runT_add (a : Nat) : ∀ (t : Int) (b : Nat) (st : List Int), runT rule srv cs t (a + b) st = runT rule srv cs (t + a) b (runT rule srv cs t a st) := by
  induction a with
  | zero => intro t b st; simp [runT]
  | succ a ih =>
    intro t b st
    rw [show a + 1 + b = (a + b) + 1 by omega, runT, runT, ih]
    congr 1
    omega
theorem fill_keep {t : Int} (h0 : 0 ≤ t) : ∀ (n : Nat) (st : List Int), st.length = cs.length → (fill rule srv cs t n st).length = cs.length ∧ ∀ i, i < cs.length → (0 ≤ stC st i → stC (fill rule srv cs t n st) i = stC st i) ∧ (stC st i < 0 → stC (fill rule srv cs t n st) i = stC st i ∨ t ≤ stC (fill rule srv cs t n st) i) := by
  intro n
  induction n with
  | zero => intro st hl; exact ⟨hl, fun i _ => ⟨fun _ => rfl, fun _ => .inl rfl⟩⟩
  | succ n ih =>
    intro st hl
    rw [fill]
    split
    · split
      · exact ⟨hl, fun i _ => ⟨fun _ => rfl, fun _ => .inl rfl⟩⟩
      · rename_i k hk
        obtain ⟨h2, h3, _⟩ := wt_mem.1 (nxt_mem hk)
        obtain ⟨g1, g2⟩ := ih (st.set k t) (by simp [hl])
        refine ⟨g1, fun i hi => ?_⟩
        obtain ⟨g3, g4⟩ := g2 i hi
        rw [stC_set (by omega)] at g3 g4
        by_cases hik : i = k
        · rw [if_pos hik] at g3 g4
          subst hik
          exact ⟨fun h => by omega, fun _ => .inr (by have := g3 h0; omega)⟩
        · rw [if_neg hik] at g3 g4
          exact ⟨g3, g4⟩
    · exact ⟨hl, fun i _ => ⟨fun _ => rfl, fun _ => .inl rfl⟩⟩
theorem runT_keep : ∀ (n : Nat) (t : Int) (st : List Int), 0 ≤ t → st.length = cs.length → (runT rule srv cs t n st).length = cs.length ∧ ∀ i, i < cs.length → (0 ≤ stC st i → stC (runT rule srv cs t n st) i = stC st i) ∧ (stC st i < 0 → stC (runT rule srv cs t n st) i < 0 ∨ t ≤ stC (runT rule srv cs t n st) i) := by
  intro n
  induction n with
  | zero => intro t st _ hl; exact ⟨hl, fun i _ => ⟨fun _ => rfl, fun h => .inl h⟩⟩
  | succ n ih =>
    intro t st h0 hl
    rw [runT]
    obtain ⟨f1, f2⟩ := fill_keep (rule := rule) (srv := srv) h0 cs.length st hl
    obtain ⟨g1, g2⟩ := ih (t + 1) _ (by omega) f1
    refine ⟨g1, fun i hi => ?_⟩
    obtain ⟨g3, g4⟩ := g2 i hi
    obtain ⟨f3, f4⟩ := f2 i hi
    refine ⟨fun h => by rw [g3 (by rw [f3 h]; exact h), f3 h], fun h => ?_⟩
    rcases f4 h with f5 | f5
    · rw [f5] at g4
      rcases g4 h with g5 | g5
      · exact .inl g5
      · exact .inr (by omega)
    · exact .inr (by rw [g3 (by omega)]; exact f5)
/-! ### one more that has not come yet -/
theorem atC_app {x : Cust} {i : Nat} (h : i < cs.length) : atC (cs ++ [x]) i = atC cs i := by unfold atC; rw [List.getElem?_append_left h]
theorem wkC_app {x : Cust} {i : Nat} (h : i < cs.length) : wkC (cs ++ [x]) i = wkC cs i := by unfold wkC; rw [List.getElem?_append_left h]
theorem klC_app {x : Cust} {i : Nat} (h : i < cs.length) : klC (cs ++ [x]) i = klC cs i := by unfold klC; rw [List.getElem?_append_left h]
theorem stC_app {st : List Int} {y : Int} {i : Nat} (h : i < st.length) : stC (st ++ [y]) i = stC st i := by unfold stC; rw [List.getElem?_append_left h]
theorem stC_last {st : List Int} {y : Int} : stC (st ++ [y]) st.length = y := stC_of (by simp)
theorem atC_last {x : Cust} : atC (cs ++ [x]) cs.length = x.t := atC_of (by simp)
theorem bz_app {x : Cust} {st : List Int} {t : Int} (hl : st.length = cs.length) : bz (cs ++ [x]) (st ++ [-1]) t = bz cs st t := by
  unfold bz
  rw [List.length_append, List.length_cons, List.length_nil, List.range_succ, List.countP_append, List.countP_singleton]
  have h1 : inS (cs ++ [x]) (st ++ [-1]) t cs.length = false := by
    unfold inS
    rw [← hl, stC_last]
    rfl
  rw [h1]
  simp only [Bool.false_eq_true, if_false, Nat.add_zero]
  refine List.countP_congr fun i hi => ?_
  rw [List.mem_range] at hi
  unfold inS
  rw [stC_app (by omega), wkC_app hi]
theorem wt_app {x : Cust} {st : List Int} {t : Int} (hl : st.length = cs.length) (ht : t < x.t) : wt (cs ++ [x]) (st ++ [-1]) t = wt cs st t := by
  unfold wt
  rw [List.length_append, List.length_cons, List.length_nil, List.range_succ, List.filter_append]
  have h1 : isW (cs ++ [x]) (st ++ [-1]) t cs.length = false := by
    unfold isW
    rw [atC_last, decide_eq_false (by omega : ¬ x.t ≤ t), Bool.and_false]
  rw [List.filter_cons_of_neg (by rw [h1]; decide), List.filter_nil, List.append_nil]
  refine List.filter_congr fun i hi => ?_
  rw [List.mem_range] at hi
  unfold isW
  rw [stC_app (by omega), atC_app hi]
theorem pick_app {x : Cust} {b : Option Nat} {i : Nat} (hi : i < cs.length) (hb : ∀ k, b = some k → k < cs.length) : pickW rule (cs ++ [x]) b i = pickW rule cs b i := by
  unfold pickW
  cases b with
  | none => rfl
  | some k =>
    have := hb k rfl
    have hbe : befo rule (cs ++ [x]) i k = befo rule cs i k := by unfold befo; rw [wkC_app hi, wkC_app this, klC_app hi, klC_app this]
    simp only [hbe]
theorem nxt_app {x : Cust} {st : List Int} {t : Int} (hl : st.length = cs.length) (ht : t < x.t) : nxt rule (cs ++ [x]) (st ++ [-1]) t = nxt rule cs st t := by
  unfold nxt
  rw [wt_app hl ht]
  have : ∀ (ws : List Nat), (∀ i ∈ ws, i < cs.length) → ∀ b : Option Nat, (∀ k, b = some k → k < cs.length) → ws.foldl (pickW rule (cs ++ [x])) b = ws.foldl (pickW rule cs) b := by
    intro ws
    induction ws with
    | nil => intro _ b _; rfl
    | cons i ws ih =>
      intro hw b hb
      have hi := hw i List.mem_cons_self
      rw [List.foldl_cons, List.foldl_cons, pick_app hi hb]
      refine ih (fun j hj => hw j (List.mem_cons_of_mem _ hj)) _ fun k hk => ?_
      unfold pickW at hk
      cases b with
      | none => injection hk with hk; omega
      | some q =>
        simp only at hk
        have := hb q rfl
        split at hk <;> (injection hk with hk; omega)
  exact this _ (fun i hi => (wt_mem.1 hi).1) none fun k hk => by cases hk
theorem fill_app {x : Cust} {t : Int} (ht : t < x.t) : ∀ (n : Nat) (st : List Int), st.length = cs.length → fill rule srv (cs ++ [x]) t n (st ++ [-1]) = fill rule srv cs t n st ++ [-1] := by
  intro n
  induction n with
  | zero => intro st _; rfl
  | succ n ih =>
    intro st hl
    rw [fill, fill, bz_app hl, nxt_app hl ht]
    split
    · split
      · rfl
      · rename_i k hk
        obtain ⟨h2, _, _⟩ := wt_mem.1 (nxt_mem hk)
        rw [List.set_append_left _ _ (by omega), ih _ (by simp [hl])]
    · rfl
theorem runT_app {x : Cust} : ∀ (n : Nat) (t : Int) (st : List Int), 0 ≤ t → t + n ≤ x.t → st.length = cs.length → runT rule srv (cs ++ [x]) t n (st ++ [-1]) = runT rule srv cs t n st ++ [-1] := by
  intro n
  induction n with
  | zero => intro t st _ _ _; rfl
  | succ n ih =>
    intro t st h0 ht hl
    have h1 := fill_keep (rule := rule) (srv := srv) h0 cs.length st hl
    have hul := unst_le (st := st ++ [-1])
    have e1 : fill rule srv (cs ++ [x]) t (cs ++ [x]).length (st ++ [-1]) = fill rule srv cs t cs.length st ++ [-1] := by
      rw [fill_app (by omega) _ _ hl]
      congr 1
      exact fill_more hl h0 _ _ (by have := unst_le (st := st); rw [List.length_append]; omega) (by have := unst_le (st := st); omega)
    rw [runT, runT, e1]
    exact ih _ _ (by omega) (by omega) h1.1
end
end Go.PM

/- Room for some: those who are kept, as customers of their own. -/
namespace Go.PM
def subC (cs : List Cust) (κ : List Nat) : List Cust := κ.map fun i => (cs[i]?).getD ⟨0, 0, 0⟩
def cntL (srv : Int) (K : List Cust) (t : Int) : Nat := (List.range K.length).countP fun j => decide (t < stC (stL 0 srv K) j + wkC K j)
def spK (srv room : Int) (cs : List Cust) : Nat → List Nat
  | 0 => []
  | i + 1 => if room ≤ (cntL srv (subC cs (spK srv room cs i)) (atC cs i) : Int) then spK srv room cs i else spK srv room cs i ++ [i]
section
variable {srv room : Int} {cs : List Cust} {κ : List Nat}
theorem subC_len : (subC cs κ).length = κ.length := by simp [subC]
theorem subC_get {j k : Nat} (hj : κ[j]? = some k) (hk : k < cs.length) : (subC cs κ)[j]? = cs[k]? := by
  unfold subC
  rw [List.getElem?_map, hj, Option.map_some, List.getElem?_eq_getElem hk, Option.getD_some]
theorem wkC_sub {j k : Nat} (hj : κ[j]? = some k) (hk : k < cs.length) : wkC (subC cs κ) j = wkC cs k := by unfold wkC; rw [subC_get hj hk]
theorem subC_app {i : Nat} : subC cs (κ ++ [i]) = subC cs κ ++ [(cs[i]?).getD ⟨0, 0, 0⟩] := by simp [subC]
theorem spK_mem : ∀ {n i : Nat}, i ∈ spK srv room cs n → i < n := by
  intro n
  induction n with
  | zero => intro i h; cases h
  | succ n ih =>
    intro i h
    rw [spK] at h
    split at h
    · exact Nat.lt_succ_of_lt (ih h)
    · rcases List.mem_append.1 h with h | h
      · exact Nat.lt_succ_of_lt (ih h)
      · rw [List.mem_singleton] at h
        omega
theorem spK_inc : ∀ n : Nat, (spK srv room cs n).Pairwise (· < ·) := by
  intro n
  induction n with
  | zero => exact List.Pairwise.nil
  | succ n ih =>
    rw [spK]
    split
    · exact ih
    · rw [List.pairwise_append]
      refine ⟨ih, List.pairwise_singleton _ _, fun a ha b hb => ?_⟩
      rw [List.mem_singleton] at hb
      rw [hb]
      exact spK_mem ha
theorem spK_len : ∀ n : Nat, (spK srv room cs n).length ≤ n := by
  intro n
  induction n with
  | zero => exact Nat.le_refl _
  | succ n ih =>
    rw [spK]
    split
    · omega
    · rw [List.length_append, List.length_cons, List.length_nil]; omega
theorem sub_ok (hc : custsOk cs) (hinc : κ.Pairwise (· < ·)) (hm : ∀ i ∈ κ, i < cs.length) (hl : κ.length ≤ 24) : custsOk (subC cs κ) := by
  refine ⟨fun j x hx => ?_, by rw [subC_len]; exact hl⟩
  have hjl : j < κ.length := by have := (List.getElem?_eq_some_iff.1 hx).1; rw [subC_len] at this; exact this
  have hk : κ[j]? = some κ[j] := List.getElem?_eq_getElem hjl
  have hkn := hm _ (List.getElem_mem hjl)
  rw [subC_get hk hkn] at hx
  refine ⟨(hc.1 _ x hx).1, fun b hj0 hb => ?_⟩
  have hk' : κ[j - 1]? = some κ[j - 1] := List.getElem?_eq_getElem (by omega)
  have hkn' := hm _ (List.getElem_mem (by omega : j - 1 < κ.length))
  rw [subC_get hk' hkn'] at hb
  have hlt : κ[j - 1] < κ[j] := List.pairwise_iff_getElem.1 hinc (j - 1) j (by omega) hjl (by omega)
  have := hc.sorted (Nat.le_of_lt hlt) hkn
  rw [atC_of hx, atC_of hb] at this
  exact this
structure RA (srv : Int) (K : List Cust) (sK : List Int) (now : Int) (wsK : List Nat) (ends : List Int) : Prop where
  way : Way K sK now
  arr : ∀ i, i < K.length → atC K i ≤ now
  wsq : wsK = (List.range K.length).filter (below0 sK)
  cnt : ∀ u, now ≤ u → ends.countP (gtB u) = bz K sK u
  ef : ∀ e ∈ ends, now < e
  eb : ∀ e ∈ ends, e + 1000 * (unst sK : Int) ≤ 11000 + 1000 * (K.length : Int)
  fwd : runT 0 srv K 0 now.toNat (List.replicate K.length (-1)) = sK
  es : (ends.length : Int) ≤ srv
variable {K : List Cust} {sK : List Int} {now t : Int} {wsK : List Nat} {ends : List Int}
theorem RA.run (h : RA srv K sK now wsK ends) (hK : custsOk K) : runT 0 srv K now (100000 - now).toNat sK = stL 0 srv K := by
  have htm := h.way.tm
  have hle := (h.way.le hK).1
  have e : (100000 : Nat) = now.toNat + (100000 - now).toNat := by omega
  unfold stL
  rw [e, runT_add, h.fwd]
  congr 1
  omega
theorem RA.wt (h : RA srv K sK now wsK ends) : wsK = wt K sK now := by
  rw [h.wsq, wt_come (Nat.le_refl _) h.arr fun i h1 h2 => by omega]
theorem RA.busy (h : RA srv K sK now wsK ends) : ends.length = bz K sK now := by
  rw [← h.cnt now (Int.le_refl _), (List.countP_eq_length (p := gtB now)).2 fun e he => decide_eq_true (h.ef e he)]
theorem countP_split {p q r : Nat → Bool} : ∀ n, (∀ i, i < n → (p i = true ↔ q i = true ∨ r i = true) ∧ ¬ (q i = true ∧ r i = true)) → (List.range n).countP p = (List.range n).countP q + (List.range n).countP r := by
  intro n
  induction n with
  | zero => intro _; rfl
  | succ n ih =>
    intro h
    rw [List.range_succ, List.countP_append, List.countP_append, List.countP_append, ih fun i hi => h i (by omega)]
    obtain ⟨h1, h2⟩ := h n (by omega)
    simp only [List.countP_singleton]
    cases hp : p n <;> cases hq : q n <;> cases hr : r n <;> simp [hp, hq, hr] at h1 h2 ⊢ <;> omega
theorem RA.count (h : RA srv K sK now wsK ends) (hK : custsOk K) (hs : 1 ≤ srv) : cntL srv K now = wsK.length + ends.length := by
  have hrun := h.run hK
  have htm := h.way.tm
  have hpos := stL_pos (rule := 0) (srv := srv) hK ⟨by decide, by decide⟩ hs
  have hkeep := (runT_keep (rule := 0) (srv := srv) (cs := K) (100000 - now).toNat now sK htm.1 h.way.len).2
  rw [hrun] at hkeep
  unfold cntL
  rw [countP_split (q := inS K sK now) (r := below0 sK)]
  · rw [h.busy, h.wsq, List.countP_eq_length_filter (p := below0 sK)]
    unfold bz
    omega
  · intro i hi
    obtain ⟨k1, k2⟩ := hkeep i hi
    have hw := (hK.bnd hi).2
    have hp := hpos i hi
    have hh := h.way.high i hi
    simp only [inS, below0, Bool.and_eq_true, decide_eq_true_eq]
    by_cases h0 : 0 ≤ stC sK i
    · have := k1 h0
      constructor
      · constructor
        · intro h3
          exact .inl ⟨⟨h0, hh⟩, by omega⟩
        · rintro (⟨_, h3⟩ | h3) <;> omega
      · omega
    · have := k2 (by omega)
      constructor
      · constructor
        · intro _; exact .inr (by omega)
        · intro _; omega
      · omega
theorem RA.come {x : Cust} (h : RA srv K sK now wsK ends) (hx : x.t = now) : RA srv (K ++ [x]) (sK ++ [-1]) now (wsK ++ [K.length]) ends := by
  have hl := h.way.len
  have htm := h.way.tm
  have hu : unst (sK ++ [-1]) = unst sK + 1 := by
    unfold unst
    rw [List.countP_append]
    rfl
  have hlen : (K ++ [x]).length = K.length + 1 := by simp
  have hst : ∀ i, i < K.length + 1 → stC (sK ++ [-1]) i = if i < K.length then stC sK i else -1 := by
    intro i hi
    split
    · exact stC_app (by omega)
    · have : i = sK.length := by omega
      rw [this]
      exact stC_last
  refine ⟨⟨by simp [hl], ?_, ?_, ?_, htm.1, ?_⟩, ?_, ?_, ?_, h.ef, ?_, ?_, h.es⟩
  · intro i hi
    rw [hst i (by omega)]
    split
    · exact h.way.low i (by assumption)
    · omega
  · intro i hi
    rw [hst i (by omega)]
    split
    · exact h.way.high i (by assumption)
    · omega
  · intro i hi
    rw [hst i (by omega), hu, hlen]
    split
    · rename_i h1
      have := h.way.bd i h1
      omega
    · have := unst_le (st := sK)
      omega
  · rw [hu, hlen]
    omega
  · intro i hi
    rcases Nat.lt_or_ge i K.length with h1 | h1
    · rw [atC_app h1]
      exact h.arr i h1
    · have : i = K.length := by omega
      rw [this, atC_last]
      omega
  · rw [hlen, List.range_succ, List.filter_append, h.wsq]
    congr 1
    · refine List.filter_congr fun i hi => ?_
      rw [List.mem_range] at hi
      unfold below0
      rw [stC_app (by omega)]
    · have : below0 (sK ++ [-1]) K.length = true := by
        unfold below0
        rw [← hl, stC_last]
        rfl
      rw [List.filter_cons_of_pos this]
      rfl
  · intro u hu
    rw [bz_app hl]
    exact h.cnt u hu
  · intro e he
    have := h.eb e he
    rw [hu, hlen]
    omega
  · rw [hlen, List.replicate_succ']
    have := runT_app (rule := 0) (srv := srv) (cs := K) (x := x) now.toNat 0 (List.replicate K.length (-1)) (Int.le_refl _) (by omega) (by simp)
    rw [this, h.fwd]
theorem RA.of (h : ImpI 0 srv K sK t K.length wsK ends) (hf : runT 0 srv K 0 (t + 1).toNat (List.replicate K.length (-1)) = sK) (ht : t < now) (hn : now + 1000 * (unst sK : Int) ≤ 11000 + 1000 * (K.length : Int)) (hq : ∀ u, t < u → u < now → full 0 srv K sK u) :
    RA srv K sK now wsK (ends.filter (gtB now)) := by
  have htm := h.tm
  refine ⟨⟨h.len, h.low, fun i hi => by have := h.high i hi; omega, h.bd, by omega, hn⟩, fun i hi => by have := h.past i hi; omega, ?_, ?_, ?_, ?_, ?_, ?_⟩
  · rw [← wt_come (st := sK) h.cle h.past fun i h3 h4 => by omega]
    exact h.wsq
  · intro u hu
    rw [List.countP_filter, ← h.cnt u (by omega)]
    refine List.countP_congr fun e he => ?_
    simp only [gtB, Bool.and_eq_true, decide_eq_true_eq]
    omega
  · intro e he
    have := (List.mem_filter.1 he).2
    simpa [gtB] using this
  · intro e he
    exact h.eb e (List.mem_filter.1 he).1
  · rw [show now.toNat = (t + 1).toNat + (now - (t + 1)).toNat by omega, runT_add, hf]
    have := runT_skip (rule := 0) (srv := srv) (cs := K) (st := sK) (now - (t + 1)).toNat (0 + ((t + 1).toNat : Int)) (now - (t + 1)).toNat (fun u h1 h2 => hq u (by omega) (by omega)) (Nat.le_refl _)
    rw [this, Nat.sub_self]
    rfl
  · have := List.length_filter_le (gtB now) ends
    have := h.es
    omega
theorem RA.ph (h : RA srv K sK now wsK ends) : Ph4 0 srv K sK now K.length (wsK.length + ends.length) sK wsK ends :=
  ⟨h.way, h.wt, h.cnt, h.ef, h.eb, rfl, h.arr, fun i h1 h2 => by omega, rfl, h.es⟩
theorem ImpI.quiet (h : ImpI 0 srv K sK t K.length wsK ends) (hn : 0 < wsK.length → ∀ e ∈ ends, now ≤ e) : ∀ u, t < u → u < now → full 0 srv K sK u := by
  intro u h1 h2
  by_cases hw : 0 < wsK.length
  · left
    have hbz : srv ≤ (bz K sK t : Int) := by
      rcases h.fl with hf | hf
      · exact hf
      · rw [nxt_none, ← h.wsq] at hf
        rw [hf] at hw
        simp at hw
    rw [← h.cnt u (by omega), (List.countP_eq_length (p := gtB u)).2 fun e he => decide_eq_true (by have := hn hw e he; omega), h.cntAll]
    exact hbz
  · right
    rw [nxt_none, wt_come (Nat.le_refl _) (fun i hi => by have := h.past i hi; omega) fun i h3 h4 => by omega]
    have e1 := wt_come (st := sK) h.cle h.past fun i h3 h4 => (h.fut i h3 h4).1
    rw [← e1, ← h.wsq]
    exact List.eq_nil_of_length_eq_zero (by omega)
end
end Go.PM

/- Room for some: what holds of the program on its way. -/
namespace Go.PM
section
variable {srv room : Int} {cs : List Cust} {κ : List Nat}
abbrev kAt (κ : List Nat) (j : Nat) : Nat := (κ[j]?).getD 0
abbrev sKo (κ : List Nat) (st : List Int) : List Int := κ.map (stC st)
theorem stC_sKo {st : List Int} {j k : Nat} (hj : κ[j]? = some k) : stC (sKo κ st) j = stC st k := stC_of (by rw [List.getElem?_map, hj]; rfl)
theorem sKo_set {st : List Int} {j k : Nat} {v : Int} (hn : κ.Nodup) (hj : κ[j]? = some k) (hk : k < st.length) : sKo κ (st.set k v) = (sKo κ st).set j v := by
  apply List.ext_getElem?
  intro i
  rw [List.getElem?_map, List.getElem?_set, List.getElem?_map]
  have hjl := (List.getElem?_eq_some_iff.1 hj).1
  by_cases hij : j = i
  · subst hij
    rw [if_pos rfl, hj, if_pos (by simpa using hjl)]
    simp only [Option.map_some]
    rw [stC_set hk, if_pos rfl]
  · rw [if_neg hij]
    cases hi : κ[i]? with
    | none => rfl
    | some q =>
      simp only [Option.map_some]
      rw [stC_set hk, if_neg]
      intro he
      subst he
      have h1 := List.getElem?_eq_some_iff.1 hi
      have h2 := List.getElem?_eq_some_iff.1 hj
      have h3 := List.pairwise_iff_getElem.1 hn
      rcases Nat.lt_or_gt_of_ne hij with h4 | h4
      · exact h3 j i h2.1 h1.1 h4 (h2.2.trans h1.2.symm)
      · exact h3 i j h1.1 h2.1 h4 (h1.2.trans h2.2.symm)
structure RB (srv room : Int) (cs : List Cust) (come : Nat) (st : List Int) (κ : List Nat) : Prop where
  kq : κ = spK srv room cs come
  sl : st.length = cs.length
  ls : ∀ i, i < cs.length → i ∉ κ → stC st i = -1
  c1 : come ≤ cs.length
theorem RB.mem {come : Nat} {st : List Int} (h : RB srv room cs come st κ) {i : Nat} (hi : i ∈ κ) : i < come := by rw [h.kq] at hi; exact spK_mem hi
theorem RB.nd {come : Nat} {st : List Int} (h : RB srv room cs come st κ) : κ.Nodup := by
  rw [h.kq]
  exact (spK_inc come).imp fun h => Nat.ne_of_lt h
theorem RB.kl {come : Nat} {st : List Int} (h : RB srv room cs come st κ) : κ.length ≤ come := by rw [h.kq]; exact spK_len come
theorem RB.ok {come : Nat} {st : List Int} (h : RB srv room cs come st κ) (hc : custsOk cs) : custsOk (subC cs κ) := by
  have := hc.2
  have := h.kl
  have := h.c1
  refine sub_ok hc (by rw [h.kq]; exact spK_inc come) (fun i hi => by have := h.mem hi; omega) (by omega)
structure RI (srv room : Int) (cs : List Cust) (m come : Nat) (ws : List Nat) (ends st : List Int) (t : Int) (κ wsK : List Nat) : Prop where
  b : RB srv room cs come st κ
  imp : ImpI 0 srv (subC cs κ) (sKo κ st) t (subC cs κ).length wsK ends
  fwd : runT 0 srv (subC cs κ) 0 (t + 1).toNat (List.replicate (subC cs κ).length (-1)) = sKo κ st
  wsq : ws = wsK.map (kAt κ)
  fut : ∀ i, come ≤ i → i < cs.length → t < atC cs i
  ms : m = 2 * (cs.length - come) + ws.length
structure RAf (srv room : Int) (cs : List Cust) (m : Nat) (now : Int) (come : Nat) (ws : List Nat) (ends st : List Int) (κ wsK : List Nat) : Prop where
  b : RB srv room cs come st κ
  ra : RA srv (subC cs κ) (sKo κ st) now wsK ends
  wsq : ws = wsK.map (kAt κ)
  fut : ∀ i, come ≤ i → i < cs.length → now ≤ atC cs i
  ms : 2 * (cs.length - come) + ws.length < m ∨ (2 * (cs.length - come) + ws.length = m ∧ ((come < cs.length ∧ atC cs come = now) ∨ (0 < ws.length ∧ (ends.length : Int) < srv)))
structure RS (srv room : Int) (cs : List Cust) (m : Nat) (now : Int) (come : Nat) (ws : List Nat) (ends st : List Int) (κ wsK : List Nat) (sK0 : List Int) (w2 e2 : Nat) : Prop where
  b : RB srv room cs come st κ
  ph : Ph4 0 srv (subC cs κ) sK0 now (subC cs κ).length (w2 + e2) (sKo κ st) wsK ends
  fwd : runT 0 srv (subC cs κ) 0 now.toNat (List.replicate (subC cs κ).length (-1)) = sK0
  tc : w2 + e2 ≤ (subC cs κ).length
  wsq : ws = wsK.map (kAt κ)
  wle : wsK.length ≤ w2
  fut : ∀ i, come ≤ i → i < cs.length → now < atC cs i
  ms : 2 * (cs.length - come) + w2 < m ∨ (2 * (cs.length - come) + w2 = m ∧ 0 < w2 ∧ (e2 : Int) < srv)
theorem RA.le {K : List Cust} {sK : List Int} {now : Int} {wsK : List Nat} {ends : List Int} (h : RA srv K sK now wsK ends) (hK : custsOk K) (hs : 1 ≤ srv) : wsK.length + ends.length ≤ K.length := by
  rw [← h.count hK hs]
  unfold cntL
  have := List.countP_le_length (p := fun j => decide (now < stC (stL 0 srv K) j + wkC K j)) (l := List.range K.length)
  simpa using this
theorem RI.toA {m come : Nat} {ws : List Nat} {ends st : List Int} {t : Int} {wsK : List Nat} (h : RI srv room cs m come ws ends st t κ wsK) (hc : custsOk cs) (hs : 1 ≤ srv) (hg : come < cs.length ∨ 0 < ws.length) :
    RAf srv room cs m (nowN cs come ws ends) come ws (ends.filter (gtB (nowN cs come ws ends))) st κ wsK := by
  have hwl : ws.length = wsK.length := by rw [h.wsq, List.length_map]
  have htm := h.imp.tm
  have hul := unst_le (st := sKo κ st)
  have hsk := h.imp.len
  have he0 : ∀ e ∈ ends, 0 ≤ e := fun e he => by have := h.imp.ef e he; omega
  have key : (t < nowN cs come ws ends ∧ nowN cs come ws ends + 1000 * (unst (sKo κ st) : Int) ≤ 11000 + 1000 * ((subC cs κ).length : Int)) ∧ (∀ i, come ≤ i → i < cs.length → nowN cs come ws ends ≤ atC cs i) ∧ (0 < wsK.length → ∀ e ∈ ends, nowN cs come ws ends ≤ e) ∧
      (come < cs.length ∧ atC cs come = nowN cs come ws ends ∨ 0 < ws.length ∧ nowN cs come ws ends ∈ ends) := by
    by_cases hw : 0 < ws.length
    · have hbz : srv ≤ (bz (subC cs κ) (sKo κ st) t : Int) := by
        rcases h.imp.fl with hf | hf
        · exact hf
        · rw [nxt_none, ← h.imp.wsq] at hf
          rw [hwl, hf] at hw
          simp at hw
      have hne : ends ≠ [] := by
        intro he
        have := h.imp.cntAll
        rw [he] at this
        simp at this
        omega
      obtain ⟨g1, g2, g3, g4⟩ := mn_on (es := ends) (b := now0 cs come) he0
      have hnow : nowN cs come ws ends = ends.foldl (mnF true) (now0 cs come) := by unfold nowN; rw [decide_eq_true hw]
      rw [hnow]
      generalize ends.foldl (mnF true) (now0 cs come) = w at *
      have g4 := g4 hne
      have hcase : (come < cs.length ∧ atC cs come = w) ∨ w ∈ ends := by
        rcases g1 with g1 | g1
        · unfold now0 at g1
          split at g1
          · rename_i hcl
            exact .inl ⟨hcl, g1.symm⟩
          · omega
        · exact .inr g1
      refine ⟨?_, fun i h1 h2 => ?_, fun _ => g2, hcase.imp id fun h1 => ⟨hw, h1⟩⟩
      · rcases hcase with ⟨h1, h2⟩ | h1
        · have := h.fut come (Nat.le_refl _) h1
          have := hc.bnd h1
          omega
        · exact ⟨h.imp.ef _ h1, h.imp.eb _ h1⟩
      · have h3 := hc.sorted h1 h2
        have h4 := hc.bnd (i := come) (by omega)
        have h5 : now0 cs come = atC cs come := by unfold now0; rw [if_pos (by omega)]
        have := g3 (by rw [h5]; omega)
        omega
    · have hcl : come < cs.length := by omega
      have h5 : now0 cs come = atC cs come := by unfold now0; rw [if_pos hcl]
      have h4 := hc.bnd hcl
      have hf := h.fut come (Nat.le_refl _) hcl
      have hnow : nowN cs come ws ends = atC cs come := by unfold nowN; rw [decide_eq_false hw, mn_off (by rw [h5]; omega), h5]
      rw [hnow]
      exact ⟨⟨hf, by omega⟩, fun i h1 h2 => hc.sorted h1 h2, fun h6 => by omega, .inl ⟨hcl, rfl⟩⟩
  obtain ⟨⟨k1, k2⟩, k3, k4, k5⟩ := key
  generalize nowN cs come ws ends = now at *
  refine ⟨h.b, RA.of h.imp h.fwd k1 k2 (h.imp.quiet k4), h.wsq, k3, .inr ⟨h.ms.symm, ?_⟩⟩
  rcases k5 with k5 | ⟨k5, k6⟩
  · exact .inl k5
  · right
    refine ⟨k5, ?_⟩
    have hlt : (ends.filter (gtB now)).length < ends.length := by
      rcases Nat.lt_or_ge (ends.filter (gtB now)).length ends.length with h3 | h3
      · exact h3
      · have h4 := List.length_filter_le (gtB now) ends
        have h5 := (List.length_filter_eq_length_iff (p := gtB now) (l := ends)).1 (by omega) now k6
        simp [gtB] at h5
    have := h.imp.es
    omega
theorem RAf.step {m : Nat} {now : Int} {come : Nat} {ws : List Nat} {ends st : List Int} {wsK : List Nat} (h : RAf srv room cs m now come ws ends st κ wsK) (hc : custsOk cs) (hs : 1 ≤ srv) (hlt : come < cs.length) (hat : atC cs come = now) :
    ∃ κ' wsK', RAf srv room cs m now (come + 1) (if (ws.length : Int) + (ends.length : Int) < room then ws ++ [come] else ws) ends st κ' wsK' := by
  have hK := h.b.ok hc
  have hcnt := h.ra.count hK hs
  have hwl : ws.length = wsK.length := by rw [h.wsq, List.length_map]
  have hni : come ∉ κ := fun hi => Nat.lt_irrefl _ (h.b.mem hi)
  have hsp : spK srv room cs (come + 1) = if room ≤ (cntL srv (subC cs κ) now : Int) then κ else κ ++ [come] := by rw [spK, ← h.b.kq, hat]
  have hms := h.ms
  by_cases hr : (ws.length : Int) + (ends.length : Int) < room
  · rw [if_pos hr]
    rw [if_neg (by omega)] at hsp
    have hx : cs[come]? = some cs[come] := List.getElem?_eq_getElem hlt
    have hK' : subC cs (κ ++ [come]) = subC cs κ ++ [cs[come]] := by rw [subC_app, hx]; rfl
    have hst : stC st come = -1 := h.b.ls come hlt hni
    have hsK' : sKo (κ ++ [come]) st = sKo κ st ++ [-1] := by rw [sKo, List.map_append, List.map_cons, List.map_nil, hst]
    have hlen : (subC cs κ).length = κ.length := subC_len
    refine ⟨κ ++ [come], wsK ++ [(subC cs κ).length], ⟨hsp.symm, h.b.sl, fun i hi hn => h.b.ls i hi fun hm => hn (List.mem_append_left _ hm), by omega⟩, ?_, ?_, fun i h1 h2 => h.fut i (by omega) h2, .inl ?_⟩
    · rw [hK', hsK']
      exact h.ra.come (by rw [← atC_of hx]; exact hat)
    · rw [List.map_append, h.wsq]
      congr 1
      · refine List.map_congr_left fun j hj => ?_
        have hjl : j < κ.length := by
          rw [h.ra.wsq] at hj
          have := List.mem_range.1 (List.mem_filter.1 hj).1
          omega
        unfold kAt
        rw [List.getElem?_append_left hjl]
      · rw [List.map_cons, List.map_nil, hlen]
        unfold kAt
        rw [List.getElem?_append_right (Nat.le_refl _), Nat.sub_self]
        rfl
    · rw [List.length_append, List.length_cons, List.length_nil]
      omega
  · rw [if_neg hr]
    rw [if_pos (by omega)] at hsp
    exact ⟨κ, wsK, ⟨hsp.symm, h.b.sl, h.b.ls, by omega⟩, h.ra, h.wsq, fun i h1 h2 => h.fut i (by omega) h2, .inl (by omega)⟩
theorem RAf.toS {m : Nat} {now : Int} {come : Nat} {ws : List Nat} {ends st : List Int} {wsK : List Nat} (h : RAf srv room cs m now come ws ends st κ wsK) (hc : custsOk cs) (hs : 1 ≤ srv) (hng : ¬ (come < cs.length ∧ atC cs come = now)) :
    RS srv room cs m now come ws ends st κ wsK (sKo κ st) wsK.length ends.length := by
  have hwl : ws.length = wsK.length := by rw [h.wsq, List.length_map]
  refine ⟨h.b, h.ra.ph, h.ra.fwd, h.ra.le (h.b.ok hc) hs, h.wsq, Nat.le_refl _, fun i h1 h2 => ?_, ?_⟩
  · have h3 := hc.sorted h1 h2
    have h4 := h.fut come (Nat.le_refl _) (by omega)
    have h5 : atC cs come ≠ now := fun he => hng ⟨by omega, he⟩
    omega
  · rcases h.ms with h1 | ⟨h1, h2 | h2⟩
    · exact .inl (by omega)
    · exact absurd h2 hng
    · exact .inr ⟨by omega, by omega, h2.2⟩
theorem RS.step {m : Nat} {now : Int} {come : Nat} {ws : List Nat} {ends st : List Int} {wsK : List Nat} {sK0 : List Int} {w2 e2 : Nat} (h : RS srv room cs m now come ws ends st κ wsK sK0 w2 e2) (hc : custsOk cs) (hb : (ends.length : Int) < srv) (hne : 0 < ws.length) :
    ∃ k, ws[nextP 0 cs ws]? = some k ∧ RS srv room cs m now come (ws.eraseIdx (nextP 0 cs ws)) (ends ++ [now + wkC cs k]) (st.set k now) κ (wsK.eraseIdx 0) sK0 w2 e2 := by
  have hwl : ws.length = wsK.length := by rw [h.wsq, List.length_map]
  have hn0 : ∀ (c : List Cust) (l : List Nat), nextP 0 c l = 0 := fun c l => rfl
  obtain ⟨j, h1, h2, h3, h4, h5⟩ := h.ph.step (h.b.ok hc) ⟨by decide, by decide⟩ hb (by omega)
  rw [hn0] at h1 h3 h5
  rw [hn0]
  have hjl : j < κ.length := by rw [← subC_len (cs := cs)]; exact h2
  have hk : κ[j]? = some κ[j] := List.getElem?_eq_getElem hjl
  have hkc := h.b.mem (List.getElem_mem hjl)
  have hkN : κ[j] < cs.length := by have := h.b.c1; omega
  have hsl := h.b.sl
  refine ⟨κ[j], ?_, ⟨h.b.kq, by simp [hsl], fun i hi hn => ?_, h.b.c1⟩, ?_, h.fwd, h.tc, ?_, ?_, h.fut, h.ms⟩
  · rw [h.wsq, List.getElem?_map, h1]
    simp only [Option.map_some, kAt, hk, Option.getD_some]
  · rw [stC_set (by omega), if_neg (fun he => hn (by rw [he]; exact List.getElem_mem hjl))]
    exact h.b.ls i hi hn
  · rw [sKo_set h.b.nd hk (by omega), ← wkC_sub (cs := cs) hk hkN]
    exact h5
  · rw [h.wsq]
    cases wsK with
    | nil => rfl
    | cons a l => rfl
  · rw [List.length_eraseIdx_of_lt h3]
    have := h.wle
    omega
theorem RS.toI {m : Nat} {now : Int} {come : Nat} {ws : List Nat} {ends st : List Int} {wsK : List Nat} {sK0 : List Int} {w2 e2 : Nat} (h : RS srv room cs m now come ws ends st κ wsK sK0 w2 e2) (hc : custsOk cs) (hng : ¬ ((ends.length : Int) < srv ∧ 0 < ws.length)) :
    ∃ m', m' < m ∧ RI srv room cs m' come ws ends st now κ wsK := by
  have hwl : ws.length = wsK.length := by rw [h.wsq, List.length_map]
  have htot := h.ph.tot
  have hwle := h.wle
  have htm := h.ph.way.tm
  have hK := h.b.ok hc
  have hle := (h.ph.way.le hK).1
  have hor : srv ≤ (ends.length : Int) ∨ wsK = [] := by
    by_cases hw : 0 < ws.length
    · exact .inl (by have : ¬ (ends.length : Int) < srv := fun he => hng ⟨he, hw⟩; omega)
    · exact .inr (List.eq_nil_of_length_eq_zero (by omega))
  have hrun : runT 0 srv (subC cs κ) now (100000 - now).toNat sK0 = stL 0 srv (subC cs κ) := by
    unfold stL
    rw [show (100000 : Nat) = now.toNat + (100000 - now).toNat by omega, runT_add, h.fwd]
    congr 1
    omega
  have himp := h.ph.done hK (Nat.le_refl _) h.tc hor hrun
  refine ⟨2 * (cs.length - come) + ws.length, ?_, h.b, himp, ?_, h.wsq, h.fut, rfl⟩
  · rcases h.ms with h1 | ⟨h1, h2, h3⟩
    · omega
    · by_cases hw : 0 < ws.length
      · have : ¬ (ends.length : Int) < srv := fun he => hng ⟨he, hw⟩
        omega
      · omega
  · rw [show (now + 1).toNat = now.toNat + 1 by omega, runT_add, h.fwd, runT, runT, show (0 : Int) + (now.toNat : Int) = now by omega, ← h.ph.fl]
    exact fill_full himp.fl _
end
structure RmEnd (srv room : Int) (cs : List Cust) (st : List Int) : Prop where
  sl : st.length = cs.length
  kept : sKo (spK srv room cs cs.length) st = stL 0 srv (subC cs (spK srv room cs cs.length))
  lost : ∀ i, i < cs.length → i ∉ spK srv room cs cs.length → stC st i = -1
end Go.PM

/- Room for some: results; the program, walked. -/
namespace Go.PM
section
variable {srv room : Int} {cs : List Cust}
def keptB (srv room : Int) (cs : List Cust) (i : Nat) : Bool := decide (i ∈ spK srv room cs (i + 1))
theorem spK_pre : ∀ {i n : Nat}, i ≤ n → spK srv room cs i <+: spK srv room cs n := by
  intro i n h
  induction n with
  | zero =>
    have : i = 0 := by omega
    subst this
    exact List.prefix_refl _
  | succ n ih =>
    rcases Nat.lt_or_ge i (n + 1) with h1 | h1
    · refine (ih (by omega)).trans ?_
      rw [show spK srv room cs (n + 1) = if room ≤ (cntL srv (subC cs (spK srv room cs n)) (atC cs n) : Int) then spK srv room cs n else spK srv room cs n ++ [n] from rfl]
      split
      · exact List.prefix_refl _
      · exact List.prefix_append _ _
    · have : i = n + 1 := by omega
      subst this
      exact List.prefix_refl _
theorem spK_one (i : Nat) : spK srv room cs (i + 1) = if keptB srv room cs i = true then spK srv room cs i ++ [i] else spK srv room cs i := by
  have h0 : spK srv room cs (i + 1) = if room ≤ (cntL srv (subC cs (spK srv room cs i)) (atC cs i) : Int) then spK srv room cs i else spK srv room cs i ++ [i] := rfl
  have hn : i ∉ spK srv room cs i := fun h => Nat.lt_irrefl _ (spK_mem h)
  unfold keptB
  by_cases hc : room ≤ (cntL srv (subC cs (spK srv room cs i)) (atC cs i) : Int)
  · rw [if_pos hc] at h0
    rw [h0, decide_eq_false hn, if_neg (by decide)]
  · rw [if_neg hc] at h0
    rw [h0, decide_eq_true (List.mem_append_right _ List.mem_cons_self), if_pos rfl]
theorem keptB_mem {i n : Nat} (h : i < n) : i ∈ spK srv room cs n ↔ keptB srv room cs i = true := by
  unfold keptB
  rw [decide_eq_true_eq]
  refine ⟨fun hm => ?_, fun hm => (spK_pre (by omega : i + 1 ≤ n)).subset hm⟩
  induction n with
  | zero => omega
  | succ n ih =>
    rcases Nat.lt_or_ge i n with h1 | h1
    · refine ih h1 ?_
      rw [spK_one] at hm
      split at hm
      · rcases List.mem_append.1 hm with h2 | h2
        · exact h2
        · rw [List.mem_singleton] at h2; omega
      · exact hm
    · have : i = n := by omega
      subst this
      exact hm
theorem kept_at {i n : Nat} (h : i < n) (hk : keptB srv room cs i = true) : (spK srv room cs n)[(spK srv room cs i).length]? = some i := by
  obtain ⟨l, hl⟩ := spK_pre (srv := srv) (room := room) (cs := cs) (by omega : i + 1 ≤ n)
  rw [spK_one, if_pos hk] at hl
  rw [← hl, List.append_assoc, List.getElem?_append_right (Nat.le_refl _), Nat.sub_self]
  rfl
def rmS (srv room : Int) (cs : List Cust) : List Int := stL 0 srv (subC cs (spK srv room cs cs.length))
def rmAt (srv room : Int) (cs : List Cust) (i : Nat) : Int := if keptB srv room cs i = true then stC (rmS srv room cs) (spK srv room cs i).length + wkC cs i else -1
def rmLv (srv room : Int) (cs : List Cust) : List Int := (List.range cs.length).map (rmAt srv room cs)
theorem rmS_ok (hc : custsOk cs) (hs : 1 ≤ srv) {i : Nat} (hi : i < cs.length) (hk : keptB srv room cs i = true) : (spK srv room cs i).length < (subC cs (spK srv room cs cs.length)).length ∧ 0 ≤ stC (rmS srv room cs) (spK srv room cs i).length ∧ stC (rmS srv room cs) (spK srv room cs i).length ≤ 100000 := by
  have h1 := (List.getElem?_eq_some_iff.1 (kept_at hi hk)).1
  have h24 := hc.2
  have h2 := spK_len (srv := srv) (room := room) (cs := cs) cs.length
  have hK : custsOk (subC cs (spK srv room cs cs.length)) := sub_ok hc (spK_inc _) (fun j hj => spK_mem hj) (by omega)
  have hl : (spK srv room cs i).length < (subC cs (spK srv room cs cs.length)).length := by rw [subC_len]; exact h1
  refine ⟨hl, stL_pos hK ⟨by decide, by decide⟩ hs _ hl, ?_⟩
  unfold rmS
  have h3 : (stL 0 srv (subC cs (spK srv room cs cs.length)))[(spK srv room cs i).length]? = some _ := List.getElem?_eq_getElem (by rw [stL_len]; exact hl)
  rw [stC_of h3]
  exact (stL_mem _ (List.mem_of_getElem? h3)).2
theorem RmEnd.at {st : List Int} (h : RmEnd srv room cs st) {i : Nat} (hi : i < cs.length) : stC st i = if keptB srv room cs i = true then stC (rmS srv room cs) (spK srv room cs i).length else -1 := by
  split
  · rename_i hk
    unfold rmS
    rw [← h.kept, stC_sKo (kept_at hi hk)]
  · rename_i hk
    exact h.lost i hi fun hm => hk ((keptB_mem hi).1 hm)
theorem RmEnd.leaves {st : List Int} (h : RmEnd srv room cs st) (hc : custsOk cs) (hs : 1 ≤ srv) : mvI (·.w) cs st = rmLv srv room cs := by
  apply List.ext_getElem?
  intro i
  by_cases hi : i < cs.length
  · have hx : cs[i]? = some cs[i] := List.getElem?_eq_getElem hi
    obtain ⟨s0, hs'⟩ : ∃ s0, st[i]? = some s0 := ⟨_, List.getElem?_eq_getElem (by rw [h.sl]; exact hi)⟩
    rw [mvI_get hx hs', rmLv, List.getElem?_map, List.getElem?_range hi]
    simp only [Option.map_some]
    congr 1
    have h1 := h.at hi
    rw [stC_of hs'] at h1
    unfold rmAt
    by_cases hk : keptB srv room cs i = true
    · have h2 := (rmS_ok hc hs hi hk).2.1
      rw [if_pos hk] at h1 ⊢
      rw [h1, if_pos h2, wkC_of hx]
    · rw [if_neg hk] at h1 ⊢
      rw [h1, if_neg (by decide)]
  · rw [List.getElem?_eq_none (by rw [mvI_len h.sl]; omega), List.getElem?_eq_none (by simp [rmLv]; omega)]
theorem RmEnd.neg {st : List Int} (h : RmEnd srv room cs st) (hc : custsOk cs) (hs : 1 ≤ srv) {i : Nat} {s : Int} (hi : st[i]? = some s) : (s < 0 ↔ ¬ keptB srv room cs i = true) ∧ s ≤ 100000 := by
  have hil : i < cs.length := by rw [← h.sl]; exact (List.getElem?_eq_some_iff.1 hi).1
  have h1 := h.at hil
  rw [stC_of hi] at h1
  by_cases hk : keptB srv room cs i = true
  · have h2 := (rmS_ok hc hs hil hk).2
    rw [if_pos hk] at h1
    exact ⟨⟨fun h => by omega, fun h => absurd hk h⟩, by omega⟩
  · rw [if_neg hk] at h1
    exact ⟨⟨fun _ => hk, fun _ => by omega⟩, by omega⟩
end
def rmOk (srv room : Int) (cs : List Cust) : Prop := stOk 0 srv cs ∧ (srv ≤ room ∧ room ≤ 24)
noncomputable instance (srv room : Int) (cs : List Cust) : Decidable (rmOk srv room cs) := Classical.propDecidable _
end Go.PM

/- Starts, leaves and waits: the program and the reference, walked. -/
namespace Go.PM
noncomputable def stV (rule srv : Int) (cs : List Cust) : List Int := if stOk rule srv cs then stL rule srv cs else []
theorem impl_starts_pos {rule srv : Int} {cs : List Cust} (hc : custsOk cs) (hr : 0 ≤ rule ∧ rule ≤ 3) (hs : 1 ≤ srv ∧ srv ≤ 8) : FC 16 [VI rule, VI srv, VI 24, custsV cs] fun n r L => stR (stL rule srv cs) n r L ∧ ∀ s ∈ stL rule srv cs, 0 ≤ s := by
  intro n
  refine (impl_starts_w (stSys hc hr hs.1 (Int.le_refl 24)) hc hr hs.2 n).mono ?_
  rintro r H ⟨L, h1, h2, h3, m, come, ws, ends, st, ⟨_, t, hI⟩, hcome, hw, h4, h5⟩
  have h6 := hI.done hcome hw
  refine ⟨L, h1, h2, h3, ⟨?_, ?_⟩, fun s hs => ?_⟩
  · rw [h4, stL_len]
  · rw [h5, h6]
  · rw [← h6] at hs
    obtain ⟨i, hi⟩ := List.getElem?_of_mem hs
    have hil := (List.getElem?_eq_some_iff.1 hi).1
    have := hI.all hcome hw i (by rw [← hI.len]; exact hil)
    rw [stC_of hi] at this
    exact this
theorem LR.of {vals : List Int} {ok : Bool} {n : Nat} {r : VV} {L : VHeap} (h : stR vals n r L) : LR vals ok n (.tup [r, .sc (.bool ok)]) L := ⟨r, rfl, .inr ⟨0, 0, vals.length, h.1, Nat.le_refl _, h.2⟩⟩
theorem impl_StartsOf_w (rule srv : Int) (cs : List Cust) (hn : cs.length ≤ 1000000000) : FC 7 [VI rule, VI srv, custsV cs] fun n r L => LR (stV rule srv cs) (decide (stOk rule srv cs)) n r L ∧ ∀ s ∈ stV rule srv cs, 0 ≤ s := by
  refine FC.walk ⟨true, false⟩ impl_StartsOf_t (Nat.le_of_ble_eq_true rfl) fun n => ?_
  have eA := impl_pathOk_v rule srv cs hn
  by_cases hok : stOk rule srv cs
  · simp only [impl_StartsOf, impl_StartsOf_c, eA, hok, VX, Nat.reduceEqDiff, Nat.reduceAdd]
    refine FC.callO (impl_starts_pos hok.2.2 hok.1 hok.2.1) rfl (fz4 (fz_res rfl) (fz_res rfl) (fz_res rfl) (fz_res (custsV_pure _))) ?_
    rw [List.length_replicate]
    rintro r L ⟨hR, hpos⟩ ho hL
    have hv : stV rule srv cs = stL rule srv cs := if_pos hok
    simp only [VX, Nat.reduceEqDiff, Nat.reduceAdd]
    refine ⟨L, rfl, by simp only [ownV, ownL, ho, isSc, Bool.and_self], hL, ?_, ?_⟩
    · rw [hv]
      exact LR.of hR
    · rw [hv]
      exact hpos
  · simp only [impl_StartsOf, impl_StartsOf_c, eA, hok, VX, Nat.reduceEqDiff, Nat.reduceAdd]
    have hv : stV rule srv cs = [] := if_neg hok
    refine ⟨[], by simp, rfl, rfl, ⟨_, rfl, .inl ⟨rfl, hv⟩⟩, ?_⟩
    rw [hv]
    intro s hs
    cases hs
theorem impl_StartsOf_v (rule srv : Int) (cs : List Cust) (hn : cs.length ≤ 1000000000) : FC 7 [VI rule, VI srv, custsV cs] (LR (stV rule srv cs) (decide (stOk rule srv cs))) := (impl_StartsOf_w rule srv cs hn).mono fun _ _ _ h => h.1
end Go.PM

/- Leaves and waits: the program and the reference, walked. -/
namespace Go.PM
def mvL (g : Cust → Int) : List Cust → List Int → List Int
  | c :: cs, s :: st => (s + g c) :: mvL g cs st
  | _, _ => []
theorem mvL_len {g : Cust → Int} : ∀ {cs : List Cust} {st : List Int}, st.length = cs.length → (mvL g cs st).length = cs.length
  | [], [], _ => rfl
  | c :: cs, s :: st, h => by
    have h' : st.length = cs.length := by simpa using h
    rw [mvL, List.length_cons, mvL_len h', List.length_cons]
theorem mvL_get {g : Cust → Int} : ∀ {cs : List Cust} {st : List Int} {i : Nat} {c : Cust} {s : Int}, cs[i]? = some c → st[i]? = some s → (mvL g cs st)[i]? = some (s + g c)
  | [], _, _, _, _, h, _ => by simp at h
  | _ :: _, [], _, _, _, _, h => by simp at h
  | c :: cs, s :: st, 0, _, _, h1, h2 => by
    injection h1 with h1
    injection h2 with h2
    subst h1; subst h2
    rfl
  | c :: cs, s :: st, i + 1, _, _, h1, h2 => by
    rw [List.getElem?_cons_succ] at h1 h2
    rw [mvL, List.getElem?_cons_succ]
    exact mvL_get h1 h2
theorem mvL_nil {g : Cust → Int} : ∀ {cs : List Cust}, mvL g cs [] = []
  | [] => rfl
  | _ :: _ => rfl
set_option maxHeartbeats 1000000 in
theorem impl_moved_v (g : Cust → Int) (fc : Nat) (cs : List Cust) (vals : List Int) (hf : vals ≠ [] → ∀ c ∈ cs, TC fc [cV c] (VI (g c)) ∧ -100000 ≤ g c ∧ g c ≤ 100000) (hl : vals.length = cs.length ∨ vals = []) (hv : ∀ s ∈ vals, 0 ≤ s ∧ s ≤ 100000) (hn : vals.length ≤ 1000000) :
    FC 17 [custsV cs, numsV vals, .clo fc []] fun n r L => r = .ref n vals.length 0 vals.length vals.length ∧ L = [.row vals.length ((mvL g cs vals).map nV) 1 true] ∧ (mvL g cs vals).length = vals.length := by
  refine FC.walk ⟨true, false⟩ impl_moved_t (Nat.le_of_ble_eq_true rfl) fun n => ?_
  have hvl : vals.length ≤ cs.length := by rcases hl with h | h <;> simp [h]
  have hml : (mvL g cs vals).length = vals.length := by
    rcases hl with h | h
    · rw [mvL_len h, h]
    · subst h
      rw [mvL_nil]
  have e0 := fun H => vlit_nil (H := H) (lr := false) (z := [.int .i64 0]) rfl
  simp only [impl_moved, impl_moved_c, e0, VX, Nat.reduceEqDiff, Nat.reduceAdd, vrow_D0, vrow_Dk, set_D0, set_Dk, len_D, List.append_assoc, Nat.le_add_right, take_Dk, take_D0, List.length_replicate]
  refine VW_loop (fun (i : Nat) ρ H => i ≤ vals.length ∧ H = List.replicate n VBlk.dead ++ [.row i (((mvL g cs vals).take i).map nV) 1 true] ∧ ρ 0 = custsV cs ∧ ρ 2 = .clo fc [] ∧ ρ 7 = .ref n i 0 i i ∧ ρ 11 = numsV vals ∧ ρ 12 = VI vals.length ∧ ρ 13 = VI i) (fun i => vals.length - i) 0 ⟨Nat.zero_le _, rfl, rfl, rfl, rfl, rfl, rfl, rfl⟩ ?_
  rintro i ρ H ⟨hi, rfl, h0, h2, h7, h11, h12, h13⟩
  by_cases hin : (i : Int) < (vals.length : Int)
  · obtain ⟨s, hs⟩ : ∃ s, vals[i]? = some s := ⟨_, List.getElem?_eq_getElem (by omega)⟩
    obtain ⟨c, hc⟩ : ∃ c, cs[i]? = some c := ⟨_, List.getElem?_eq_getElem (by omega)⟩
    have hb := hv s (List.mem_of_getElem? hs)
    have hgb := hf (fun he => by rw [he] at hs; simp at hs) c (List.mem_of_getElem? hc)
    have e1 := fun H => viaddr_map (f := nV) (t := .op) (H := H) (size := 1) (k := .i64) hs rfl
    have e2 := fun H => viaddr_map (f := cV) (t := .op) (H := H) (size := 3) (k := .i64) hc rfl
    have wi : IntKind.i64.wrap ((i : Int) + 1) = ((i + 1 : Nat) : Int) := wrapN (i + 1) (by omega) (by omega)
    have ws : IntKind.i64.wrap (s + g c) = s + g c := wrap64 (by omega) (by omega)
    have hge : 0 ≤ s := hb.1
    have eF := hgb.1
    have eL : ∀ (v : Int) H, vlit false [.int .i64 0] 1 [(0, VI v)] H = some (.tree [VI v] (.cl 1), H) := fun v H => vlit_one rfl rfl rfl
    have eS : ∀ (v : Int) H, vsource 1 (.tree [VI v] (.cl 1)) H = some [VI v] := fun v H => vsource_one rfl rfl
    have hX : (mvL g cs vals).take i ++ [s + g c] = (mvL g cs vals).take (i + 1) := by
      rw [List.take_add_one, mvL_get hc hs]
      rfl
    have eP := vappend_row (f := nV) (xs := (mvL g cs vals).take i) (x := s + g c) (lo := n) (b := n) (g := i) (n := i) (e := 1) (bytes := 8) (H := List.replicate n VBlk.dead ++ [.row i (((mvL g cs vals).take i).map nV) 1 true]) (by rw [vrow_D0, vrow_zero]) (by simp; omega) (Nat.le_refl _) (by decide) (by decide) (by omega)
    rw [set_D0, hX] at eP
    have ag : rdCells true 3 (cV c) 0 = some (cV c) := rfl
    simp only [impl_moved_b0, h0, h2, h7, h11, h12, h13, hin, e1, e2, ag, eF, ws, wi, hge, ge_iff_le, eL, eS, eP, List.append_nil, VX, Nat.reduceEqDiff, Nat.reduceAdd]
    exact ⟨i + 1, by omega, by omega, rfl, by (repeat' apply And.intro) <;> first | rfl | trivial⟩
  · have hie : i = vals.length := by omega
    subst hie
    simp only [impl_moved_b0, h7, h12, h13, hin, VX, Nat.reduceEqDiff, Nat.reduceAdd]
    refine ⟨_, rfl, by simp [ownV], ?_, ?_⟩
    · simp only [rowsOwn, List.all_cons, List.all_nil, Bool.and_true]
      exact ownL_map (f := nV) (fun _ => rfl) _
    · rw [List.take_of_length_le (by omega)]
      exact ⟨rfl, hml⟩
theorem impl_LeavesOf_1_v (c : Cust) : TC 18 [cV c] (VI c.w) := by
  refine TC.walk ⟨true, false⟩ impl_LeavesOf_1_t rfl (Nat.le_of_ble_eq_true rfl) rfl rfl ?_
  simp only [impl_LeavesOf_1, impl_LeavesOf_1_c, rd_cV, cV, VX, Nat.reduceEqDiff, Nat.reduceAdd]
  exact fz_res rfl
theorem impl_WaitsOf_1_v (c : Cust) (h : 0 ≤ c.t ∧ c.t ≤ 10000) : TC 19 [cV c] (VI (0 - c.t)) := by
  refine TC.walk ⟨true, false⟩ impl_WaitsOf_1_t rfl (Nat.le_of_ble_eq_true rfl) rfl rfl ?_
  have w : IntKind.i64.wrap (0 - c.t) = 0 - c.t := wrap64 (by omega) (by omega)
  simp only [impl_WaitsOf_1, impl_WaitsOf_1_c, rd_cV, cV, w, VX, Nat.reduceEqDiff, Nat.reduceAdd]
  exact fz_res rfl
noncomputable def mvV (g : Cust → Int) (rule srv : Int) (cs : List Cust) : List Int := if stOk rule srv cs then mvL g cs (stL rule srv cs) else []
theorem mvV_is {g : Cust → Int} {rule srv : Int} {cs : List Cust} : mvL g cs (stV rule srv cs) = mvV g rule srv cs := by
  unfold stV mvV
  split
  · rfl
  · exact mvL_nil
theorem moved_end {g : Cust → Int} {rule srv : Int} {cs : List Cust} {n : Nat} {L : VHeap} (hL : rowsOwn n L = true) (hml : (mvL g cs (stV rule srv cs)).length = (stV rule srv cs).length) :
    ∃ L', (List.replicate n VBlk.dead ++ L) ++ [.row (stV rule srv cs).length ((mvL g cs (stV rule srv cs)).map nV) 1 true] = List.replicate n VBlk.dead ++ L' ∧ ownV n (.tup [.ref (List.replicate n VBlk.dead ++ L).length (stV rule srv cs).length 0 (stV rule srv cs).length (stV rule srv cs).length, .sc (.bool (decide (stOk rule srv cs)))]) = true ∧ rowsOwn n L' = true ∧
      LR (mvV g rule srv cs) (decide (stOk rule srv cs)) n (.tup [.ref (List.replicate n VBlk.dead ++ L).length (stV rule srv cs).length 0 (stV rule srv cs).length (stV rule srv cs).length, .sc (.bool (decide (stOk rule srv cs)))]) L' := by
  rw [mvV_is] at *
  refine ⟨L ++ [.row (stV rule srv cs).length ((mvV g rule srv cs).map nV) 1 true], by rw [List.append_assoc], by simp [ownV, ownL, isSc], ?_, _, rfl, .inr ⟨L.length, (stV rule srv cs).length, (stV rule srv cs).length, ?_, ?_, ?_⟩⟩
  · unfold rowsOwn at hL ⊢
    rw [List.all_append, hL]
    simp only [List.all_cons, List.all_nil, Bool.and_true, Bool.true_and]
    exact ownL_map (f := nV) (fun _ => rfl) _
  · rw [hml]
    simp
  · rw [hml]
    exact Nat.le_refl _
  · rw [List.getElem?_append_right (Nat.le_refl _), Nat.sub_self]
    rfl
theorem LR.fz {vals : List Int} {ok : Bool} {n : Nat} {v : VV} {L : VHeap} (h : (v = .tree [] .nil ∧ vals = []) ∨ ∃ i g c, v = .ref (n + i) g 0 vals.length c ∧ vals.length ≤ c ∧ L[i]? = some (.row g (vals.map nV) 1 true)) : PM.fz depth (List.replicate n VBlk.dead ++ L) v = some (numsV vals) := by
  rcases h with ⟨rfl, rfl⟩ | ⟨i, g, c, rfl, h2, h3⟩
  · exact fz_niltree
  · exact fz_live (fun _ => rfl) (by rw [vrow_Dk]; exact vrow_some.2 h3) h2
theorem stV_mv {rule srv : Int} {cs : List Cust} (hpos : ∀ s ∈ stV rule srv cs, 0 ≤ s) : ((stV rule srv cs).length = cs.length ∨ stV rule srv cs = []) ∧ (∀ s ∈ stV rule srv cs, 0 ≤ s ∧ s ≤ 100000) ∧ (stV rule srv cs ≠ [] → custsOk cs) ∧ (stV rule srv cs).length ≤ 1000000 := by
  unfold stV at *
  split
  · rename_i hok
    rw [if_pos hok] at hpos
    have := hok.2.2.2
    exact ⟨.inl stL_len, fun s hs => ⟨hpos s hs, (stL_mem s hs).2⟩, fun _ => hok.2.2, by rw [stL_len]; omega⟩
  · exact ⟨.inr rfl, fun s hs => (by cases hs), fun h => absurd rfl h, Nat.zero_le _⟩
theorem impl_LeavesOf_v (rule srv : Int) (cs : List Cust) (hn : cs.length ≤ 1000000000) : FC 8 [VI rule, VI srv, custsV cs] (LR (mvV (·.w) rule srv cs) (decide (stOk rule srv cs))) := by
  refine FC.walk ⟨true, false⟩ impl_LeavesOf_t (Nat.le_of_ble_eq_true rfl) fun n => ?_
  simp only [impl_LeavesOf, impl_LeavesOf_c, VX, Nat.reduceEqDiff, Nat.reduceAdd]
  refine FC.callO (impl_StartsOf_w rule srv cs hn) rfl (fz3 (fz_res rfl) (fz_res rfl) (fz_res (custsV_pure _))) ?_
  rw [List.length_replicate]
  rintro r L ⟨⟨v, rfl, hv⟩, hpos⟩ ho hL
  obtain ⟨k1, k2, k3, k4⟩ := stV_mv hpos
  simp only [List.getElem?_cons_zero, List.getElem?_cons_succ, VX, Nat.reduceEqDiff, Nat.reduceAdd]
  refine FC.callO (impl_moved_v (·.w) 18 cs (stV rule srv cs) (fun hne c hc => ⟨impl_LeavesOf_1_v c, by have := (k3 hne).mem hc; omega, by have := (k3 hne).mem hc; omega⟩) k1 k2 k4) rfl (fz3 (fz_res (custsV_pure _)) (LR.fz (ok := true) hv) (fz_res rfl)) ?_
  rintro r' L' ⟨rfl, rfl, hml⟩ _ _
  simp only [VX, Nat.reduceEqDiff, Nat.reduceAdd]
  exact moved_end hL hml
theorem impl_WaitsOf_v (rule srv : Int) (cs : List Cust) (hn : cs.length ≤ 1000000000) : FC 9 [VI rule, VI srv, custsV cs] (LR (mvV (fun c => 0 - c.t) rule srv cs) (decide (stOk rule srv cs))) := by
  refine FC.walk ⟨true, false⟩ impl_WaitsOf_t (Nat.le_of_ble_eq_true rfl) fun n => ?_
  simp only [impl_WaitsOf, impl_WaitsOf_c, VX, Nat.reduceEqDiff, Nat.reduceAdd]
  refine FC.callO (impl_StartsOf_w rule srv cs hn) rfl (fz3 (fz_res rfl) (fz_res rfl) (fz_res (custsV_pure _))) ?_
  rw [List.length_replicate]
  rintro r L ⟨⟨v, rfl, hv⟩, hpos⟩ ho hL
  obtain ⟨k1, k2, k3, k4⟩ := stV_mv hpos
  simp only [List.getElem?_cons_zero, List.getElem?_cons_succ, VX, Nat.reduceEqDiff, Nat.reduceAdd]
  refine FC.callO (impl_moved_v (fun c => 0 - c.t) 19 cs (stV rule srv cs) (fun hne c hc => ⟨impl_WaitsOf_1_v c ((k3 hne).mem hc).1, by have := (k3 hne).mem hc; omega, by have := (k3 hne).mem hc; omega⟩) k1 k2 k4) rfl (fz3 (fz_res (custsV_pure _)) (LR.fz (ok := true) hv) (fz_res rfl)) ?_
  rintro r' L' ⟨rfl, rfl, hml⟩ _ _
  simp only [VX, Nat.reduceEqDiff, Nat.reduceAdd]
  exact moved_end hL hml
end Go.PM

/- Limits: plain words. -/
namespace Go.PM
section
variable {srv room : Int} {cs : List Cust}
/-! ### room for all -/
/-! ### nobody starts ahead of coming -/
theorem fill_ge {rule t : Int} : ∀ (n : Nat) (st : List Int), st.length = cs.length → (∀ i, i < cs.length → 0 ≤ stC st i → atC cs i ≤ stC st i) → ∀ i, i < cs.length → 0 ≤ stC (fill rule srv cs t n st) i → atC cs i ≤ stC (fill rule srv cs t n st) i := by
  intro n
  induction n with
  | zero => intro st _ h; exact h
  | succ n ih =>
    intro st hl h
    rw [fill]
    split
    · split
      · exact h
      · rename_i k hk
        obtain ⟨h2, h3, h4⟩ := wt_mem.1 (nxt_mem hk)
        refine ih _ (by simp [hl]) fun i hi => ?_
        rw [stC_set (by omega)]
        split
        · rename_i he
          subst he
          intro _
          exact h4
        · exact h i hi
    · exact h
theorem runT_ge {rule : Int} : ∀ (n : Nat) (t : Int) (st : List Int), 0 ≤ t → st.length = cs.length → (∀ i, i < cs.length → 0 ≤ stC st i → atC cs i ≤ stC st i) → ∀ i, i < cs.length → 0 ≤ stC (runT rule srv cs t n st) i → atC cs i ≤ stC (runT rule srv cs t n st) i := by
  intro n
  induction n with
  | zero => intro t st _ _ h; exact h
  | succ n ih =>
    intro t st h0 hl h
    rw [runT]
    exact ih _ _ (by omega) (fill_keep h0 cs.length st hl).1 (fill_ge _ _ hl h)
theorem stL_ge {rule : Int} {i : Nat} (hi : i < cs.length) (h : 0 ≤ stC (stL rule srv cs) i) : atC cs i ≤ stC (stL rule srv cs) i :=
  runT_ge 100000 0 _ (Int.le_refl _) (by simp) (fun j hj h0 => by rw [stC_rep hj] at h0; omega) i hi h
/-! ### never more than the room -/
end
end Go.PM

/- One server, first come first: plain words. -/
namespace Go.PM
section
variable {cs : List Cust}
end
end Go.PM

/- Room for some: the reference, walked. -/
namespace Go.PM
end Go.PM

/- Two lists of numbers that are handed back: compared, marked, held. -/
namespace Go.PM
def Apart (v w : VV) : Prop := ∀ b g n c g' n' c', v = .ref b g 0 n c → w ≠ .ref b g' 0 n' c'
theorem Apart.symm {v w : VV} (h : Apart v w) : Apart w v := fun b g n c g' n' c' h1 h2 => h b g' n' c' g n c h2 h1
end Go.PM

/- The pure machine's form of functions, as the settings give it: LX. -/
namespace Go.PM
def laws_FnPaths_b0 : PCode := (.seq (.reg [⟨(some 95), (.bin .lss (.tmp 94) (.tmp 93)), none, false, []⟩]) (.seq (.cond (.tmp 95) .skip (.exit 0)) (.seq (.block 1 (.seq (.reg [⟨(some 96), (.mv (.tmp 94)), none, false, []⟩, ⟨(some 14), (.mv (.tmp 96)), none, false, []⟩]) (.seq (.reg [⟨(some 97), (.mv (.tmp 8)), none, false, []⟩, ⟨(some 98), (.mv (.tmp 14)), none, false, []⟩, ⟨(some 99), (.iaddr 1 (.tmp 97) (.tmp 98)), none, false, []⟩, ⟨(some 100), (.load false 1 (.tmp 99)), none, false, []⟩, ⟨(some 101), (.mv (.tmp 5)), none, false, []⟩, ⟨(some 102), (.mv (.tmp 14)), none, false, []⟩, ⟨(some 103), (.iaddr 3 (.tmp 101) (.tmp 102)), none, false, []⟩, ⟨(some 104), (.faddr 0 (.tmp 103)), none, false, []⟩, ⟨(some 105), (.load false 1 (.tmp 104)), none, false, []⟩, ⟨(some 106), (.bin .lss (.tmp 100) (.tmp 105)), none, false, []⟩, ⟨(some 107), (.mv (.tmp 106)), none, false, []⟩, ⟨(some 108), (.mv (.tmp 10)), (some (107, false)), false, []⟩, ⟨(some 109), (.mv (.tmp 14)), (some (107, false)), false, []⟩, ⟨(some 110), (.iaddr 1 (.tmp 108) (.tmp 109)), (some (107, false)), false, []⟩, ⟨(some 111), (.load false 1 (.tmp 110)), (some (107, false)), false, []⟩, ⟨(some 112), (.mv (.tmp 8)), (some (107, false)), false, []⟩, ⟨(some 113), (.mv (.tmp 14)), (some (107, false)), false, []⟩, ⟨(some 114), (.iaddr 1 (.tmp 112) (.tmp 113)), (some (107, false)), false, []⟩, ⟨(some 115), (.load false 1 (.tmp 114)), (some (107, false)), false, []⟩, ⟨(some 116), (.mv (.tmp 5)), (some (107, false)), false, []⟩, ⟨(some 117), (.mv (.tmp 14)), (some (107, false)), false, []⟩, ⟨(some 118), (.iaddr 3 (.tmp 116) (.tmp 117)), (some (107, false)), false, []⟩, ⟨(some 119), (.faddr 1 (.tmp 118)), (some (107, false)), false, []⟩, ⟨(some 120), (.load false 1 (.tmp 119)), (some (107, false)), false, []⟩, ⟨(some 121), (.bin .add (.tmp 115) (.tmp 120)), (some (107, false)), false, []⟩, ⟨(some 122), (.bin .neq (.tmp 111) (.tmp 121)), (some (107, false)), false, []⟩, ⟨(some 123), (.pick (.tmp 107) (.const (.bool true)) (.tmp 122)), none, false, []⟩, ⟨(some 124), (.mv (.tmp 123)), none, false, []⟩, ⟨(some 125), (.mv (.tmp 12)), (some (124, false)), false, []⟩, ⟨(some 126), (.mv (.tmp 14)), (some (124, false)), false, []⟩, ⟨(some 127), (.iaddr 1 (.tmp 125) (.tmp 126)), (some (124, false)), false, []⟩, ⟨(some 128), (.load false 1 (.tmp 127)), (some (124, false)), false, []⟩, ⟨(some 129), (.mv (.tmp 8)), (some (124, false)), false, []⟩, ⟨(some 130), (.mv (.tmp 14)), (some (124, false)), false, []⟩, ⟨(some 131), (.iaddr 1 (.tmp 129) (.tmp 130)), (some (124, false)), false, []⟩, ⟨(some 132), (.load false 1 (.tmp 131)), (some (124, false)), false, []⟩, ⟨(some 133), (.mv (.tmp 5)), (some (124, false)), false, []⟩, ⟨(some 134), (.mv (.tmp 14)), (some (124, false)), false, []⟩, ⟨(some 135), (.iaddr 3 (.tmp 133) (.tmp 134)), (some (124, false)), false, []⟩, ⟨(some 136), (.faddr 0 (.tmp 135)), (some (124, false)), false, []⟩, ⟨(some 137), (.load false 1 (.tmp 136)), (some (124, false)), false, []⟩, ⟨(some 138), (.bin .sub (.tmp 132) (.tmp 137)), (some (124, false)), false, []⟩, ⟨(some 139), (.bin .neq (.tmp 128) (.tmp 138)), (some (124, false)), false, []⟩, ⟨(some 140), (.pick (.tmp 124) (.const (.bool true)) (.tmp 139)), none, false, []⟩]) (.cond (.tmp 140) (.seq (.reg [⟨(some 4), (.mv (.const (.bool false))), none, false, []⟩]) .ret) .skip)))) (.reg [⟨(some 141), (.bin .add (.tmp 94) (.const (.int .i64 1))), none, false, []⟩, ⟨(some 94), (.mv (.tmp 141)), none, false, []⟩]))))
def laws_FnPaths_b1 : PCode := (.seq (.reg [⟨(some 149), (.bin .lss (.tmp 148) (.tmp 147)), none, false, []⟩]) (.seq (.cond (.tmp 149) .skip (.exit 4)) (.seq (.block 5 (.seq (.reg [⟨(some 150), (.mv (.tmp 148)), none, false, []⟩, ⟨(some 18), (.mv (.tmp 150)), none, false, []⟩]) (.seq (.seq (.reg [⟨(some 151), (.mv (.tmp 8)), none, false, []⟩, ⟨(some 152), (.mv (.tmp 18)), none, false, []⟩, ⟨(some 153), (.iaddr 1 (.tmp 151) (.tmp 152)), none, false, []⟩, ⟨(some 154), (.load false 1 (.tmp 153)), none, false, []⟩, ⟨(some 155), (.mv (.tmp 15)), none, false, []⟩, ⟨(some 156), (.bin .leq (.tmp 154) (.tmp 155)), none, false, []⟩, ⟨(some 157), (.mv (.tmp 156)), none, false, []⟩, ⟨(some 158), (.mv (.tmp 10)), (some (157, true)), false, []⟩, ⟨(some 159), (.mv (.tmp 18)), (some (157, true)), false, []⟩, ⟨(some 160), (.iaddr 1 (.tmp 158) (.tmp 159)), (some (157, true)), false, []⟩, ⟨(some 161), (.load false 1 (.tmp 160)), (some (157, true)), false, []⟩, ⟨(some 162), (.mv (.tmp 15)), (some (157, true)), false, []⟩, ⟨(some 163), (.bin .gtr (.tmp 161) (.tmp 162)), (some (157, true)), false, []⟩, ⟨(some 164), (.pick (.tmp 157) (.tmp 163) (.const (.bool false))), none, false, []⟩]) (.cond (.tmp 164) (.reg [⟨(some 165), (.mv (.tmp 16)), none, false, []⟩, ⟨(some 166), (.bin .add (.tmp 165) (.const (.int .i64 1))), none, false, []⟩, ⟨(some 16), (.mv (.tmp 166)), none, false, []⟩]) .skip)) (.reg [⟨(some 167), (.mv (.tmp 17)), none, false, []⟩, ⟨(some 168), (.mv (.tmp 167)), none, false, []⟩, ⟨(some 169), (.mv (.tmp 5)), (some (168, false)), false, []⟩, ⟨(some 170), (.mv (.tmp 18)), (some (168, false)), false, []⟩, ⟨(some 171), (.iaddr 3 (.tmp 169) (.tmp 170)), (some (168, false)), false, []⟩, ⟨(some 172), (.faddr 0 (.tmp 171)), (some (168, false)), false, []⟩, ⟨(some 173), (.load false 1 (.tmp 172)), (some (168, false)), false, []⟩, ⟨(some 174), (.mv (.tmp 15)), (some (168, false)), false, []⟩, ⟨(some 175), (.bin .leq (.tmp 173) (.tmp 174)), (some (168, false)), false, []⟩, ⟨(some 176), (.mv (.tmp 175)), (some (168, false)), false, []⟩, ⟨(some 177), (.mv (.tmp 8)), (some (176, true)), false, []⟩, ⟨(some 178), (.mv (.tmp 18)), (some (176, true)), false, []⟩, ⟨(some 179), (.iaddr 1 (.tmp 177) (.tmp 178)), (some (176, true)), false, []⟩, ⟨(some 180), (.load false 1 (.tmp 179)), (some (176, true)), false, []⟩, ⟨(some 181), (.mv (.tmp 15)), (some (176, true)), false, []⟩, ⟨(some 182), (.bin .gtr (.tmp 180) (.tmp 181)), (some (176, true)), false, []⟩, ⟨(some 183), (.pick (.tmp 176) (.tmp 182) (.const (.bool false))), (some (168, false)), false, []⟩, ⟨(some 184), (.pick (.tmp 168) (.const (.bool true)) (.tmp 183)), none, false, []⟩, ⟨(some 17), (.mv (.tmp 184)), none, false, []⟩])))) (.reg [⟨(some 185), (.bin .add (.tmp 148) (.const (.int .i64 1))), none, false, []⟩, ⟨(some 148), (.mv (.tmp 185)), none, false, []⟩]))))
def laws_FnPaths_b2 : PCode := (.seq (.seq (.reg [⟨(some 142), (.mv (.tmp 15)), none, false, []⟩, ⟨(some 143), (.bin .lss (.tmp 142) (.const (.int .i64 130))), none, false, []⟩]) (.cond (.tmp 143) .skip (.exit 2))) (.seq (.block 3 (.seq (.reg [⟨(some 16), (.mv (.const (.int .i64 0))), none, false, []⟩]) (.seq (.reg [⟨(some 17), (.mv (.const (.bool false))), none, false, []⟩]) (.seq (.seq (.reg [⟨(some 146), (.mv (.tmp 5)), none, false, []⟩, ⟨(some 147), (.len (.tmp 146)), none, false, []⟩, ⟨(some 148), (.mv (.const (.int .i64 0))), none, false, []⟩]) (.block 4 (.loop laws_FnPaths_b1))) (.seq (.reg [⟨(some 186), (.mv (.tmp 16)), none, false, []⟩, ⟨(some 187), (.mv (.tmp 7)), none, false, []⟩, ⟨(some 188), (.bin .gtr (.tmp 186) (.tmp 187)), none, false, []⟩, ⟨(some 189), (.mv (.tmp 188)), none, false, []⟩, ⟨(some 190), (.mv (.tmp 17)), (some (189, false)), false, []⟩, ⟨(some 191), (.mv (.tmp 190)), (some (189, false)), false, []⟩, ⟨(some 192), (.mv (.tmp 16)), (some (191, true)), false, []⟩, ⟨(some 193), (.mv (.tmp 7)), (some (191, true)), false, []⟩, ⟨(some 194), (.bin .lss (.tmp 192) (.tmp 193)), (some (191, true)), false, []⟩, ⟨(some 195), (.pick (.tmp 191) (.tmp 194) (.const (.bool false))), (some (189, false)), false, []⟩, ⟨(some 196), (.pick (.tmp 189) (.const (.bool true)) (.tmp 195)), none, false, []⟩]) (.cond (.tmp 196) (.seq (.reg [⟨(some 4), (.mv (.const (.bool false))), none, false, []⟩]) .ret) .skip)))))) (.reg [⟨(some 144), (.mv (.tmp 15)), none, false, []⟩, ⟨(some 145), (.bin .add (.tmp 144) (.const (.int .i64 1))), none, false, []⟩, ⟨(some 15), (.mv (.tmp 145)), none, false, []⟩])))
def laws_FnPaths_b3 : PCode := (.seq (.reg [⟨(some 214), (.bin .lss (.tmp 213) (.tmp 212)), none, false, []⟩]) (.seq (.cond (.tmp 214) .skip (.exit 6)) (.seq (.block 7 (.seq (.reg [⟨(some 215), (.mv (.tmp 213)), none, false, []⟩, ⟨(some 22), (.mv (.tmp 215)), none, false, []⟩]) (.reg [⟨(some 216), (.mv (.tmp 21)), none, false, []⟩, ⟨(some 217), (.mv (.tmp 12)), none, false, []⟩, ⟨(some 218), (.mv (.tmp 22)), none, false, []⟩, ⟨(some 219), (.iaddr 1 (.tmp 217) (.tmp 218)), none, false, []⟩, ⟨(some 220), (.load false 1 (.tmp 219)), none, false, []⟩, ⟨(some 221), (.bin .add (.tmp 216) (.tmp 220)), none, false, []⟩, ⟨(some 21), (.mv (.tmp 221)), none, false, []⟩]))) (.reg [⟨(some 222), (.bin .add (.tmp 213) (.const (.int .i64 1))), none, false, []⟩, ⟨(some 213), (.mv (.tmp 222)), none, false, []⟩]))))
def laws_FnPaths_c : PCode := (.seq (.reg [⟨(some 4), (.mv (.const (.bool false))), none, false, []⟩]) (.seq (.seq (.reg [⟨(some 25), (.mv (.tmp 0)), none, false, []⟩, ⟨(some 26), (.mv (.tmp 1)), none, false, []⟩, ⟨(some 27), (.call 4 [(.tmp 25), (.tmp 26)]), none, false, []⟩]) (.cond (.tmp 27) (.seq (.reg [⟨(some 4), (.mv (.const (.bool true))), none, false, []⟩]) .ret) .skip)) (.seq (.reg [⟨(some 28), (.mv (.tmp 0)), none, false, []⟩, ⟨(some 29), (.call 5 [(.tmp 28)]), none, false, []⟩, ⟨(some 5), (.mv (.tmp 29)), none, false, []⟩]) (.seq (.reg [⟨(some 30), (.mv (.tmp 1)), none, false, []⟩, ⟨(some 31), (.call 6 [(.tmp 30), (.const (.int .i64 0)), (.const (.int .i64 4))]), none, false, []⟩, ⟨(some 6), (.mv (.tmp 31)), none, false, []⟩]) (.seq (.reg [⟨(some 32), (.mv (.tmp 1)), none, false, []⟩, ⟨(some 33), (.call 6 [(.tmp 32), (.const (.int .i64 1)), (.const (.int .i64 3))]), none, false, []⟩, ⟨(some 34), (.bin .add (.const (.int .i64 1)) (.tmp 33)), none, false, []⟩, ⟨(some 7), (.mv (.tmp 34)), none, false, []⟩]) (.seq (.reg [⟨(some 36), (.mv (.tmp 6)), none, false, []⟩, ⟨(some 37), (.mv (.tmp 7)), none, false, []⟩, ⟨(some 38), (.mv (.tmp 5)), none, false, []⟩, ⟨(some 39), (.call 7 [(.tmp 36), (.tmp 37), (.tmp 38)]), none, false, []⟩, ⟨(some 35), (.mv (.tmp 39)), none, false, []⟩, ⟨(some 40), (.ext (.tmp 35) 0), none, false, []⟩, ⟨(some 41), (.ext (.tmp 35) 1), none, false, []⟩, ⟨(some 8), (.mv (.tmp 40)), none, false, []⟩, ⟨(some 9), (.mv (.tmp 41)), none, false, []⟩]) (.seq (.reg [⟨(some 43), (.mv (.tmp 6)), none, false, []⟩, ⟨(some 44), (.mv (.tmp 7)), none, false, []⟩, ⟨(some 45), (.mv (.tmp 5)), none, false, []⟩, ⟨(some 46), (.call 8 [(.tmp 43), (.tmp 44), (.tmp 45)]), none, false, []⟩, ⟨(some 42), (.mv (.tmp 46)), none, false, []⟩, ⟨(some 47), (.ext (.tmp 42) 0), none, false, []⟩, ⟨(some 48), (.ext (.tmp 42) 1), none, false, []⟩, ⟨(some 10), (.mv (.tmp 47)), none, false, []⟩, ⟨(some 11), (.mv (.tmp 48)), none, false, []⟩]) (.seq (.reg [⟨(some 50), (.mv (.tmp 6)), none, false, []⟩, ⟨(some 51), (.mv (.tmp 7)), none, false, []⟩, ⟨(some 52), (.mv (.tmp 5)), none, false, []⟩, ⟨(some 53), (.call 9 [(.tmp 50), (.tmp 51), (.tmp 52)]), none, false, []⟩, ⟨(some 49), (.mv (.tmp 53)), none, false, []⟩, ⟨(some 54), (.ext (.tmp 49) 0), none, false, []⟩, ⟨(some 55), (.ext (.tmp 49) 1), none, false, []⟩, ⟨(some 12), (.mv (.tmp 54)), none, false, []⟩, ⟨(some 13), (.mv (.tmp 55)), none, false, []⟩]) (.seq (.seq (.reg [⟨(some 56), (.mv (.tmp 9)), none, false, []⟩, ⟨(some 57), (.un .not (.tmp 56)), none, false, []⟩, ⟨(some 58), (.mv (.tmp 57)), none, false, []⟩, ⟨(some 59), (.mv (.tmp 11)), (some (58, false)), false, []⟩, ⟨(some 60), (.un .not (.tmp 59)), (some (58, false)), false, []⟩, ⟨(some 61), (.pick (.tmp 58) (.const (.bool true)) (.tmp 60)), none, false, []⟩, ⟨(some 62), (.mv (.tmp 61)), none, false, []⟩, ⟨(some 63), (.mv (.tmp 13)), (some (62, false)), false, []⟩, ⟨(some 64), (.un .not (.tmp 63)), (some (62, false)), false, []⟩, ⟨(some 65), (.pick (.tmp 62) (.const (.bool true)) (.tmp 64)), none, false, []⟩, ⟨(some 66), (.mv (.tmp 65)), none, false, []⟩, ⟨(some 67), (.mv (.tmp 5)), (some (66, false)), false, []⟩, ⟨(some 68), (.call 10 [(.tmp 67)]), (some (66, false)), false, []⟩, ⟨(some 69), (.un .not (.tmp 68)), (some (66, false)), false, []⟩, ⟨(some 70), (.pick (.tmp 66) (.const (.bool true)) (.tmp 69)), none, false, []⟩, ⟨(some 71), (.mv (.tmp 70)), none, false, []⟩, ⟨(some 72), (.mv (.tmp 8)), (some (71, false)), false, []⟩, ⟨(some 73), (.len (.tmp 72)), (some (71, false)), false, []⟩, ⟨(some 74), (.mv (.tmp 5)), (some (71, false)), false, []⟩, ⟨(some 75), (.len (.tmp 74)), (some (71, false)), false, []⟩, ⟨(some 76), (.bin .neq (.tmp 73) (.tmp 75)), (some (71, false)), false, []⟩, ⟨(some 77), (.pick (.tmp 71) (.const (.bool true)) (.tmp 76)), none, false, []⟩, ⟨(some 78), (.mv (.tmp 77)), none, false, []⟩, ⟨(some 79), (.mv (.tmp 10)), (some (78, false)), false, []⟩, ⟨(some 80), (.len (.tmp 79)), (some (78, false)), false, []⟩, ⟨(some 81), (.mv (.tmp 5)), (some (78, false)), false, []⟩, ⟨(some 82), (.len (.tmp 81)), (some (78, false)), false, []⟩, ⟨(some 83), (.bin .neq (.tmp 80) (.tmp 82)), (some (78, false)), false, []⟩, ⟨(some 84), (.pick (.tmp 78) (.const (.bool true)) (.tmp 83)), none, false, []⟩, ⟨(some 85), (.mv (.tmp 84)), none, false, []⟩, ⟨(some 86), (.mv (.tmp 12)), (some (85, false)), false, []⟩, ⟨(some 87), (.len (.tmp 86)), (some (85, false)), false, []⟩, ⟨(some 88), (.mv (.tmp 5)), (some (85, false)), false, []⟩, ⟨(some 89), (.len (.tmp 88)), (some (85, false)), false, []⟩, ⟨(some 90), (.bin .neq (.tmp 87) (.tmp 89)), (some (85, false)), false, []⟩, ⟨(some 91), (.pick (.tmp 85) (.const (.bool true)) (.tmp 90)), none, false, []⟩]) (.cond (.tmp 91) (.seq (.reg [⟨(some 4), (.mv (.const (.bool false))), none, false, []⟩]) .ret) .skip)) (.seq (.seq (.reg [⟨(some 92), (.mv (.tmp 5)), none, false, []⟩, ⟨(some 93), (.len (.tmp 92)), none, false, []⟩, ⟨(some 94), (.mv (.const (.int .i64 0))), none, false, []⟩]) (.block 0 (.loop laws_FnPaths_b0))) (.seq (.seq (.reg [⟨(some 15), (.mv (.const (.int .i64 0))), none, false, []⟩]) (.block 2 (.loop laws_FnPaths_b2))) (.seq (.reg [⟨(some 198), (.mv (.tmp 6)), none, false, []⟩, ⟨(some 199), (.mv (.tmp 7)), none, false, []⟩, ⟨(some 200), (.mv (.tmp 5)), none, false, []⟩, ⟨(some 201), (.call 11 [(.tmp 198), (.tmp 199), (.tmp 200)]), none, false, []⟩, ⟨(some 197), (.mv (.tmp 201)), none, false, []⟩, ⟨(some 202), (.ext (.tmp 197) 0), none, false, []⟩, ⟨(some 203), (.ext (.tmp 197) 1), none, false, []⟩, ⟨(some 19), (.mv (.tmp 202)), none, false, []⟩, ⟨(some 20), (.mv (.tmp 203)), none, false, []⟩]) (.seq (.seq (.reg [⟨(some 204), (.mv (.tmp 20)), none, false, []⟩, ⟨(some 205), (.mv (.tmp 5)), none, false, []⟩, ⟨(some 206), (.len (.tmp 205)), none, false, []⟩, ⟨(some 207), (.bin .gtr (.tmp 206) (.const (.int .i64 0))), none, false, []⟩, ⟨(some 208), (.eqb true (.tmp 204) (.tmp 207)), none, false, []⟩]) (.cond (.tmp 208) (.seq (.reg [⟨(some 4), (.mv (.const (.bool false))), none, false, []⟩]) .ret) .skip)) (.seq (.seq (.reg [⟨(some 209), (.mv (.tmp 20)), none, false, []⟩, ⟨(some 210), (.un .not (.tmp 209)), none, false, []⟩]) (.cond (.tmp 210) (.seq (.reg [⟨(some 4), (.mv (.const (.bool true))), none, false, []⟩]) .ret) .skip)) (.seq (.reg [⟨(some 21), (.mv (.const (.int .i64 0))), none, false, []⟩]) (.seq (.seq (.reg [⟨(some 211), (.mv (.tmp 12)), none, false, []⟩, ⟨(some 212), (.len (.tmp 211)), none, false, []⟩, ⟨(some 213), (.mv (.const (.int .i64 0))), none, false, []⟩]) (.block 6 (.loop laws_FnPaths_b3))) (.seq (.reg [⟨(some 224), (.mv (.tmp 21)), none, false, []⟩, ⟨(some 225), (.mv (.tmp 5)), none, false, []⟩, ⟨(some 226), (.len (.tmp 225)), none, false, []⟩, ⟨(some 227), (.call 12 [(.tmp 224), (.tmp 226)]), none, false, []⟩, ⟨(some 223), (.mv (.tmp 227)), none, false, []⟩, ⟨(some 228), (.ext (.tmp 223) 0), none, false, []⟩, ⟨(some 229), (.ext (.tmp 223) 1), none, false, []⟩, ⟨(some 23), (.mv (.tmp 228)), none, false, []⟩, ⟨(some 24), (.mv (.tmp 229)), none, false, []⟩]) (.seq (.reg [⟨(some 230), (.mv (.tmp 24)), none, false, []⟩, ⟨(some 231), (.mv (.tmp 230)), none, false, []⟩, ⟨(some 232), (.mv (.tmp 19)), (some (231, true)), false, []⟩, ⟨(some 233), (.mv (.tmp 23)), (some (231, true)), false, []⟩, ⟨(some 234), (.bin .eql (.tmp 232) (.tmp 233)), (some (231, true)), false, []⟩, ⟨(some 235), (.pick (.tmp 231) (.tmp 234) (.const (.bool false))), none, false, []⟩, ⟨(some 4), (.mv (.tmp 235)), none, false, []⟩]) .ret))))))))))))))))))
def laws_FnPaths : PFunc := ⟨236, [(.tmp 4)], laws_FnPaths_c⟩
theorem laws_FnPaths_t : tab 3 = some laws_FnPaths := by kernel_rfl
end Go.PM

/- Limits: the statement's small functions and rounds, walked. -/
namespace Go.PM
/-! ### numbers by bytes -/
def b10v (code : List Nat) (i n : Nat) : Nat := if i < code.length then (code[i]?).getD 0 % n else (i * 37 + 11) % n
theorem b10v_lt {code : List Nat} {i n : Nat} (hn : 0 < n) : b10v code i n < n := by
  unfold b10v
  split <;> exact Nat.mod_lt _ hn
theorem laws_b10At_v (code : List Nat) (i n : Nat) (hc : bytOk code) (hi : i ≤ 1000) (hn : 2 ≤ n ∧ n ≤ 200) : TC 6 [bytV code, VI i, VI n] (VI (b10v code i n)) := by
  refine TC.walk ⟨true, false⟩ laws_b10At_t rfl (Nat.le_of_ble_eq_true rfl) (by simp only [pureL, byt_pure]; rfl) rfl ?_
  have h1 : ¬ (n : Int) ≤ 1 := by omega
  by_cases hin : (i : Int) < (code.length : Int)
  · obtain ⟨x, hx⟩ : ∃ x, code[i]? = some x := ⟨_, List.getElem?_eq_getElem (by omega)⟩
    have hxb := hc.1 x (List.mem_of_getElem? hx)
    have e1 := viaddr_map (f := u8V) (t := .op) (H := []) (size := 1) (k := .i64) hx rfl
    have rdu : rdCells false 1 (u8V x) 0 = some (VK .u8 x) := rfl
    have c1 : IntKind.i64.wrap (x : Int) = (x : Int) := wrap64 (by omega) (by omega)
    have q := rem_i64 x n (by omega)
    have hv : b10v code i n = x % n := by unfold b10v; rw [if_pos (by omega), hx]; rfl
    simp only [laws_b10At, laws_b10At_c, h1, hin, e1, rdu, c1, q, VX, Nat.reduceEqDiff, Nat.reduceAdd]
    rw [hv]
    exact fz_res rfl
  · have w1 : IntKind.i64.wrap ((i : Int) * 37) = ((i * 37 : Nat) : Int) := wrapN _ (by omega) (by omega)
    have w2 : IntKind.i64.wrap (((i * 37 : Nat) : Int) + 11) = ((i * 37 + 11 : Nat) : Int) := wrapN _ (by omega) (by omega)
    have q := rem_i64 (i * 37 + 11) n (by omega)
    have hv : b10v code i n = (i * 37 + 11) % n := by unfold b10v; rw [if_neg (by omega)]
    simp only [laws_b10At, laws_b10At_c, h1, hin, w1, w2, q, VX, Nat.reduceEqDiff, Nat.reduceAdd]
    rw [hv]
    exact fz_res rfl
/-! ### lists that were handed back, looked at -/
theorem LV.len {lo hi : Nat} {vals : List Int} {H : VHeap} {v : VV} (h : LV lo hi vals H v) : vlen v H = some (VI vals.length) := by
  rcases h with ⟨rfl, rfl⟩ | ⟨b, g, c, h1, h2, rfl, h4, h5⟩
  · rfl
  · exact vlen_ref h5
theorem LV.get {lo hi : Nat} {vals : List Int} {H : VHeap} {v : VV} (h : LV lo hi vals H v) {i : Nat} {x : Int} (hx : vals[i]? = some x) : ∃ p, viaddr 1 v (VI i) H = some p ∧ vload false 1 p H = some (VI x) := by
  rcases h with ⟨rfl, rfl⟩ | ⟨b, g, c, h1, h2, rfl, h4, h5⟩
  · simp at hx
  · refine ⟨_, viaddr_row h5 (List.getElem?_eq_some_iff.1 hx).1, ?_⟩
    rw [Nat.zero_add, vload_row h5 hx]
    rfl
theorem row_cust {H : VHeap} {b g n : Nat} {cs : List Cust} (h : vrow H b g = some (cs.map cV, 3, true)) {i : Nat} {c : Cust} (hc : cs[i]? = some c) (hn : i < n) :
    viaddr 3 (.ref b g 0 n n) (VI i) H = some (.ptr b g i 0) ∧ vfaddr 0 (.ptr b g i 0) H = some (.ptr b g i 0) ∧ vfaddr 1 (.ptr b g i 0) H = some (.ptr b g i 1) ∧ vload false 1 (.ptr b g i 0) H = some (VI c.t) ∧ vload false 1 (.ptr b g i 1) H = some (VI c.w) := by
  refine ⟨?_, vfaddr_p h, vfaddr_p h, ?_, ?_⟩
  · have := viaddr_row (o := 0) (n := n) (c := n) (i := i) (k := .i64) h hn
    rw [Nat.zero_add] at this
    exact this
  · rw [vload_row h hc]; rfl
  · rw [vload_row h hc]; rfl
end Go.PM

/- Paths: how many are served, and who waits. -/
namespace Go.PM
section
variable {rule srv : Int} {cs : List Cust} {st : List Int} {t : Int}
theorem fill_done (h0 : 0 ≤ t) : ∀ (n : Nat) (st : List Int), st.length = cs.length → unst st ≤ n → full rule srv cs (fill rule srv cs t n st) t := by
  intro n
  induction n with
  | zero =>
    intro st hl hu
    right
    cases hk : nxt rule cs (fill rule srv cs t 0 st) t with
    | none => rfl
    | some k =>
      obtain ⟨h2, h3, h4⟩ := wt_mem.1 (nxt_mem hk)
      have h3 : stC st k < 0 := h3
      have := unst_set (t := t) (by omega) h3 h0
      omega
  | succ n ih =>
    intro st hl hu
    rw [fill]
    split
    · rename_i hb
      split
      · rename_i hk
        exact .inr hk
      · rename_i k hk
        obtain ⟨h2, h3, h4⟩ := wt_mem.1 (nxt_mem hk)
        have := unst_set (t := t) (by omega : k < st.length) h3 h0
        exact ih _ (by simp [hl]) (by omega)
    · rename_i hb
      exact .inl (by omega)
theorem fill_bz (h0 : 0 ≤ t) : ∀ (n : Nat) (st : List Int), st.length = cs.length → (bz cs st t : Int) ≤ srv → (bz cs (fill rule srv cs t n st) t : Int) ≤ srv := by
  intro n
  induction n with
  | zero => intro st _ h; exact h
  | succ n ih =>
    intro st hl h
    rw [fill]
    split
    · rename_i hb
      split
      · exact h
      · rename_i k hk
        obtain ⟨h2, h3, h4⟩ := wt_mem.1 (nxt_mem hk)
        refine ih _ (by simp [hl]) ?_
        rw [bz_set h2 hl h3 h0]
        split <;> omega
    · exact h
theorem fill_le (h0 : 0 ≤ t) : ∀ (n : Nat) (st : List Int), st.length = cs.length → (∀ i, i < cs.length → stC st i ≤ t) → ∀ i, i < cs.length → stC (fill rule srv cs t n st) i ≤ t := by
  intro n
  induction n with
  | zero => intro st _ h; exact h
  | succ n ih =>
    intro st hl h
    rw [fill]
    split
    · split
      · exact h
      · rename_i k hk
        obtain ⟨h2, h3, h4⟩ := wt_mem.1 (nxt_mem hk)
        refine ih _ (by simp [hl]) fun i hi => ?_
        rw [stC_set (by omega)]
        split
        · exact Int.le_refl _
        · exact h i hi
    · exact h
theorem bz_next (h : ∀ i, i < cs.length → stC st i ≤ t) : bz cs st (t + 1) ≤ bz cs st t := by
  unfold bz
  refine List.countP_mono_left fun i hi hp => ?_
  rw [List.mem_range] at hi
  have := h i hi
  simp only [inS, Bool.and_eq_true, decide_eq_true_eq] at hp ⊢
  omega
theorem runT_tick (hs : 0 ≤ srv) : ∀ (n : Nat), (runT rule srv cs 0 n (List.replicate cs.length (-1))).length = cs.length ∧ (∀ i, i < cs.length → stC (runT rule srv cs 0 n (List.replicate cs.length (-1))) i ≤ (n : Int) - 1) ∧ (bz cs (runT rule srv cs 0 n (List.replicate cs.length (-1))) n : Int) ≤ srv := by
  intro n
  induction n with
  | zero =>
    refine ⟨by simp [runT], fun i hi => ?_, ?_⟩
    · rw [runT, stC_rep hi]; decide
    · have : bz cs (runT rule srv cs 0 0 (List.replicate cs.length (-1))) 0 = 0 := by
        unfold bz
        rw [List.countP_eq_zero]
        intro i hi
        rw [List.mem_range] at hi
        simp [inS, runT, stC_rep hi]
      rw [show (((0 : Nat) : Int)) = 0 from rfl, this]
      exact hs
  | succ n ih =>
    obtain ⟨h1, h2, h3⟩ := ih
    have e : runT rule srv cs 0 (n + 1) (List.replicate cs.length (-1)) = fill rule srv cs n cs.length (runT rule srv cs 0 n (List.replicate cs.length (-1))) := by
      rw [runT_add, Int.zero_add, runT, runT]
    have h0 : (0 : Int) ≤ (n : Int) := by omega
    have hle := fill_le (rule := rule) (srv := srv) h0 cs.length _ h1 (fun i hi => by have := h2 i hi; omega)
    rw [e]
    refine ⟨(fill_keep h0 cs.length _ h1).1, fun i hi => by have := hle i hi; omega, ?_⟩
    have hb := fill_bz (rule := rule) (srv := srv) h0 cs.length _ h1 h3
    have hn := bz_next hle
    rw [show (((n + 1 : Nat)) : Int) = (n : Int) + 1 from by omega]
    omega
theorem path_bz (hs : 0 ≤ srv) {t : Nat} (ht : t < 100000) : (bz cs (stL rule srv cs) t : Int) ≤ srv ∧ ((∃ i, i < cs.length ∧ atC cs i ≤ t ∧ (t : Int) < stC (stL rule srv cs) i) → srv ≤ (bz cs (stL rule srv cs) t : Int)) := by
  obtain ⟨h1, h2, h3⟩ := runT_tick (rule := rule) (cs := cs) hs t
  have h0 : (0 : Int) ≤ (t : Int) := by omega
  have hle := fill_le (rule := rule) (srv := srv) h0 cs.length _ h1 (fun i hi => by have := h2 i hi; omega)
  have hb := fill_bz (rule := rule) (srv := srv) h0 cs.length _ h1 h3
  have hd := fill_done (rule := rule) (srv := srv) h0 cs.length _ h1 (by have := unst_le (st := runT rule srv cs 0 t (List.replicate cs.length (-1))); omega)
  have hl := (fill_keep (rule := rule) (srv := srv) h0 cs.length _ h1).1
  have e : stL rule srv cs = runT rule srv cs ((t : Int) + 1) (100000 - (t + 1)) (fill rule srv cs t cs.length (runT rule srv cs 0 t (List.replicate cs.length (-1)))) := by
    unfold stL
    have e9 : (100000 : Nat) = t + ((100000 - (t + 1)) + 1) := by omega
    conv => lhs; rw [e9, runT_add, Int.zero_add, runT]
  have hk := (runT_keep (rule := rule) (srv := srv) (cs := cs) (100000 - (t + 1)) ((t : Int) + 1) _ (by omega) hl).2
  rw [← e] at hk
  generalize fill rule srv cs t cs.length (runT rule srv cs 0 t (List.replicate cs.length (-1))) = sB at *
  have ebz : bz cs (stL rule srv cs) t = bz cs sB t := by
    unfold bz
    refine List.countP_congr fun i hi => ?_
    rw [List.mem_range] at hi
    have g1 := hk i hi
    have g2 := hle i hi
    simp only [inS, Bool.and_eq_true, decide_eq_true_eq]
    by_cases hq : 0 ≤ stC sB i
    · rw [g1.1 hq]
    · have := g1.2 (by omega)
      omega
  rw [ebz]
  refine ⟨hb, ?_⟩
  rintro ⟨i, hi, ha, hw⟩
  rcases hd with hd | hd
  · exact hd
  · exfalso
    have g1 := hk i hi
    have g2 := hle i hi
    have hneg : stC sB i < 0 := by
      by_cases hq : 0 ≤ stC sB i
      · rw [g1.1 hq] at hw
        omega
      · omega
    have hmem : i ∈ wt cs sB t := wt_mem.2 ⟨hi, hneg, ha⟩
    rw [nxt_none.1 hd] at hmem
    cases hmem
end
end Go.PM
