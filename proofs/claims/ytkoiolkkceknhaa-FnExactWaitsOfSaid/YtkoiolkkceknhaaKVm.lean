/- Texts of a claim, in one: part 13. -/
import Derived.Test.YtkoiolkkceknhaaKVl

/- Who starts when: the program, walked. -/
set_option linter.unusedSimpArgs false
set_option linter.unusedVariables false
namespace Go.PM

/-- What holds of the program's numbers on its way: at the head, while customers come, while they start. -/
structure StSys (rule srv room : Int) (cs : List Cust) where
  I : Nat → Nat → List Nat → List Int → List Int → Prop
  A : Nat → Int → Nat → List Nat → List Int → List Int → Prop
  S : Nat → Int → Nat → List Nat → List Int → List Int → Prop
  bI : ∀ {m come ws ends st}, I m come ws ends st → come ≤ cs.length ∧ st.length = cs.length ∧ ws.length ≤ 24 ∧ ends.length ≤ 24
  bA : ∀ {m now come ws ends st}, A m now come ws ends st → come ≤ cs.length ∧ st.length = cs.length ∧ ws.length ≤ 24 ∧ ends.length ≤ 24
  bS : ∀ {m now come ws ends st}, S m now come ws ends st → come ≤ cs.length ∧ st.length = cs.length ∧ ws.length ≤ 24 ∧ ends.length ≤ 24 ∧ (∀ i ∈ ws, i < cs.length) ∧ (0 ≤ now ∧ now ≤ 100000)
  start : ∃ m, I m 0 [] [] (List.replicate cs.length (-1))
  toA : ∀ {m come ws ends st}, I m come ws ends st → come < cs.length ∨ 0 < ws.length → A m (nowN cs come ws ends) come ws (ends.filter (gtB (nowN cs come ws ends))) st
  stepA : ∀ {m now come ws ends st}, A m now come ws ends st → come < cs.length → atC cs come = now → A m now (come + 1) (if (ws.length : Int) + (ends.length : Int) < room then ws ++ [come] else ws) ends st
  toS : ∀ {m now come ws ends st}, A m now come ws ends st → ¬ (come < cs.length ∧ atC cs come = now) → S m now come ws ends st
  stepS : ∀ {m now come ws ends st}, S m now come ws ends st → (ends.length : Int) < srv → 0 < ws.length → ∃ k, ws[nextP rule cs ws]? = some k ∧ S m now come (ws.eraseIdx (nextP rule cs ws)) (ends ++ [now + wkC cs k]) (st.set k now)
  toI : ∀ {m now come ws ends st}, S m now come ws ends st → ¬ ((ends.length : Int) < srv ∧ 0 < ws.length) → ∃ m', m' < m ∧ I m' come ws ends st

def stH (st : List Int) (g1 : Nat) (wall : List Nat) (g2 : Nat) (eall : List Int) : VHeap :=
  [.row 0 (st.map nV) 1 true, .row g1 (wall.map kV) 1 true, .row g2 (eall.map nV) 1 true]
/-- The names of the program's words. -/
structure StE (rule srv room : Int) (cs : List Cust) (n g1 k1 c1 g2 k2 c2 come : Nat) (ρ : VEnv) : Prop where
  r0 : ρ 0 = VI rule
  r1 : ρ 1 = VI srv
  r2 : ρ 2 = VI room
  r3 : ρ 3 = custsV cs
  r9 : ρ 9 = .ref n 0 0 cs.length cs.length
  r10 : ρ 10 = .ref (n + 1) g1 0 k1 c1
  r11 : ρ 11 = .ref (n + 2) g2 0 k2 c2
  r12 : ρ 12 = VI come
structure Part {α : Type} (all xs : List α) : Prop where
  le : xs.length ≤ all.length
  tk : all.take xs.length = xs
theorem Part.get {α : Type} {all xs : List α} (h : Part all xs) {i : Nat} {x : α} (hx : xs[i]? = some x) : all[i]? = some x := by
  rw [← h.tk, List.getElem?_take] at hx
  split at hx
  · exact hx
  · cases hx
theorem Part.fz {α : Type} {f : α → VV} {e b g : Nat} {all xs : List α} {w : Bool} {H : VHeap} (h : Part all xs) (hp : ∀ x, pureV (f x) = true) (hr : vrow H b g = some (all.map f, e, w)) : fz depth H (.ref b g 0 xs.length all.length) = some (listV f xs) := by
  rw [fz_rowP hr (by rw [List.length_map]; exact h.le) h.le (pure_map hp), ← List.map_take, h.tk]

set_option maxHeartbeats 1000000 in
/-- The least end. -/
theorem impl_starts_b0_w {rule srv room : Int} {cs : List Cust} {n lo g1 g2 come : Nat} {ws wall : List Nat} {ends eall st : List Int} {b : Int} {ρ : VEnv} (hlo : lo ≤ n) (hE : StE rule srv room cs n g1 ws.length wall.length g2 ends.length eall.length come ρ) (h13 : ρ 13 = .ptr (n + 3) 0 0 0)
    (h42 : ρ 42 = .ref (n + 2) g2 0 ends.length eall.length) (h43 : ρ 43 = VI ends.length) (h44 : ρ 44 = VI 0) (he : Part eall ends) (hn : ends.length ≤ 24) :
    VW ⟨true, false⟩ lo (.block 2 (.loop impl_starts_b0)) (fun e ρ' H => e = .normal ∧ (StE rule srv room cs n g1 ws.length wall.length g2 ends.length eall.length come ρ' ∧ ρ' 13 = .ptr (n + 3) 0 0 0) ∧
      H = List.replicate n .dead ++ (stH st g1 wall g2 eall ++ [VBlk.row 0 [VI (ends.foldl (mnF (decide (0 < ws.length))) b)] 1 true])) ρ (List.replicate n .dead ++ (stH st g1 wall g2 eall ++ [VBlk.row 0 [VI b] 1 true])) := by
  rw [VW_block]
  refine VW_loop (fun (i : Nat) ρ' H => i ≤ ends.length ∧ StE rule srv room cs n g1 ws.length wall.length g2 ends.length eall.length come ρ' ∧ ρ' 13 = .ptr (n + 3) 0 0 0 ∧ ρ' 42 = .ref (n + 2) g2 0 ends.length eall.length ∧ ρ' 43 = VI ends.length ∧ ρ' 44 = VI i ∧
    H = List.replicate n .dead ++ (stH st g1 wall g2 eall ++ [VBlk.row 0 [VI ((ends.take i).foldl (mnF (decide (0 < ws.length))) b)] 1 true])) (fun i => ends.length - i) 0 ⟨Nat.zero_le _, hE, h13, h42, h43, h44, by rw [List.take_zero]; rfl⟩ ?_
  clear hE h13 h42 h43 h44 ρ
  rintro i ρ H ⟨hi, ⟨h0, h1, h2, h3, h9, h10, h11, h12⟩, h13, h42, h43, h44, rfl⟩
  by_cases hin : (i : Int) < (ends.length : Int)
  · obtain ⟨x, hx⟩ : ∃ x, ends[i]? = some x := ⟨_, List.getElem?_eq_getElem (by omega)⟩
    have hxa : (eall.map nV)[i]? = some (VI x) := by rw [List.getElem?_map, he.get hx]; rfl
    have hge : (0 : Int) ≤ (i : Int) := by omega
    have wi : IntKind.i64.wrap ((i : Int) + 1) = ((i + 1 : Nat) : Int) := wrapN (i + 1) (by omega) (by omega)
    have hstep : (ends.take (i + 1)).foldl (mnF (decide (0 < ws.length))) b = mnF (decide (0 < ws.length)) ((ends.take i).foldl (mnF (decide (0 < ws.length))) b) x := by
      rw [List.take_add_one, hx, List.foldl_append]
      rfl
    generalize (ends.take i).foldl (mnF (decide (0 < ws.length))) b = y at *
    have rds : ∀ v : Int, rdCells false 1 (VI v) 0 = some (VI v) := fun _ => rfl
    have hlo3 : lo ≤ n + 3 := by omega
    have hm : mnF (decide (0 < ws.length)) y x = if y < 0 ∨ (decide (0 < ws.length) = true ∧ x < y) then x else y := rfl
    rw [hm] at hstep
    by_cases q1 : y < 0
    · rw [if_pos (.inl q1)] at hstep
      simp only [impl_starts_b0, stH, h0, h1, h2, h3, h9, h10, h11, h12, h13, h42, h43, h44, hin, hge, hxa, rds, wi, q1, hlo3, List.cons_append, List.nil_append, List.getElem?_cons_zero, VX, Nat.reduceEqDiff, Nat.reduceAdd, vload_pdef, vstore_pdef, viaddr_rdef, vlen_rdef, vfaddr_pdef, vchk_pdef, visnil_rdef, visnil_nil, visnil_cons, vrow_zero, vrow_succ, List.set_cons_zero, List.set_cons_succ, elemOf_one, elemOf_two, vresult, vresAll, vres1, vfill, isAny_sc, isAny_tree, isAny_ref, isAny_agg, isAny_clo, List.take_zero, List.take_succ_cons, List.take_nil, List.drop_zero, List.drop_succ_cons, List.drop_nil, List.append_nil, Nat.reduceLeDiff, Nat.le_refl, vsplice, Nat.reduceLT, Int.toNat_natCast, eq_self, ge_iff_le, Bool.and_eq_true, Nat.reduceSub, vrow_D0, vrow_Dk, set_D0, set_Dk, len_D, List.append_assoc, Nat.le_add_right, take_Dk, take_D0, List.length_replicate]
      refine ⟨i + 1, by omega, by omega, ⟨?_, ?_, ?_, ?_, ?_, ?_, ?_, ?_⟩, ?_⟩
      all_goals first | (simp only [h0, h1, h2, h3, h9, h10, h11, h12, VX, Nat.reduceEqDiff, Nat.reduceAdd]; done) | skip
      rw [hstep]
      (repeat' apply And.intro) <;> first | rfl | trivial
    · by_cases q2 : (0 : Int) < (ws.length : Int)
      · by_cases q3 : x < y
        · rw [if_pos (.inr ⟨decide_eq_true (by omega), q3⟩)] at hstep
          simp only [impl_starts_b0, stH, h0, h1, h2, h3, h9, h10, h11, h12, h13, h42, h43, h44, hin, hge, hxa, rds, wi, q1, q2, q3, hlo3, List.cons_append, List.nil_append, List.getElem?_cons_zero, VX, Nat.reduceEqDiff, Nat.reduceAdd, vload_pdef, vstore_pdef, viaddr_rdef, vlen_rdef, vfaddr_pdef, vchk_pdef, visnil_rdef, visnil_nil, visnil_cons, vrow_zero, vrow_succ, List.set_cons_zero, List.set_cons_succ, elemOf_one, elemOf_two, vresult, vresAll, vres1, vfill, isAny_sc, isAny_tree, isAny_ref, isAny_agg, isAny_clo, List.take_zero, List.take_succ_cons, List.take_nil, List.drop_zero, List.drop_succ_cons, List.drop_nil, List.append_nil, Nat.reduceLeDiff, Nat.le_refl, vsplice, Nat.reduceLT, Int.toNat_natCast, eq_self, ge_iff_le, Bool.and_eq_true, Nat.reduceSub, vrow_D0, vrow_Dk, set_D0, set_Dk, len_D, List.append_assoc, Nat.le_add_right, take_Dk, take_D0, List.length_replicate]
          refine ⟨i + 1, by omega, by omega, ⟨?_, ?_, ?_, ?_, ?_, ?_, ?_, ?_⟩, ?_⟩
          all_goals first | (simp only [h0, h1, h2, h3, h9, h10, h11, h12, VX, Nat.reduceEqDiff, Nat.reduceAdd]; done) | skip
          rw [hstep]
          (repeat' apply And.intro) <;> first | rfl | trivial
        · rw [if_neg (by omega)] at hstep
          simp only [impl_starts_b0, stH, h0, h1, h2, h3, h9, h10, h11, h12, h13, h42, h43, h44, hin, hge, hxa, rds, wi, q1, q2, q3, hlo3, List.cons_append, List.nil_append, List.getElem?_cons_zero, VX, Nat.reduceEqDiff, Nat.reduceAdd, vload_pdef, vstore_pdef, viaddr_rdef, vlen_rdef, vfaddr_pdef, vchk_pdef, visnil_rdef, visnil_nil, visnil_cons, vrow_zero, vrow_succ, List.set_cons_zero, List.set_cons_succ, elemOf_one, elemOf_two, vresult, vresAll, vres1, vfill, isAny_sc, isAny_tree, isAny_ref, isAny_agg, isAny_clo, List.take_zero, List.take_succ_cons, List.take_nil, List.drop_zero, List.drop_succ_cons, List.drop_nil, List.append_nil, Nat.reduceLeDiff, Nat.le_refl, vsplice, Nat.reduceLT, Int.toNat_natCast, eq_self, ge_iff_le, Bool.and_eq_true, Nat.reduceSub, vrow_D0, vrow_Dk, set_D0, set_Dk, len_D, List.append_assoc, Nat.le_add_right, take_Dk, take_D0, List.length_replicate]
          refine ⟨i + 1, by omega, by omega, ⟨?_, ?_, ?_, ?_, ?_, ?_, ?_, ?_⟩, ?_⟩
          all_goals first | (simp only [h0, h1, h2, h3, h9, h10, h11, h12, VX, Nat.reduceEqDiff, Nat.reduceAdd]; done) | skip
          rw [hstep]
          (repeat' apply And.intro) <;> first | rfl | trivial
      · rw [if_neg (by rw [decide_eq_false (by omega : ¬ 0 < ws.length)]; simp; omega)] at hstep
        simp only [impl_starts_b0, stH, h0, h1, h2, h3, h9, h10, h11, h12, h13, h42, h43, h44, hin, hge, hxa, rds, wi, q1, q2, hlo3, List.cons_append, List.nil_append, List.getElem?_cons_zero, VX, Nat.reduceEqDiff, Nat.reduceAdd, vload_pdef, vstore_pdef, viaddr_rdef, vlen_rdef, vfaddr_pdef, vchk_pdef, visnil_rdef, visnil_nil, visnil_cons, vrow_zero, vrow_succ, List.set_cons_zero, List.set_cons_succ, elemOf_one, elemOf_two, vresult, vresAll, vres1, vfill, isAny_sc, isAny_tree, isAny_ref, isAny_agg, isAny_clo, List.take_zero, List.take_succ_cons, List.take_nil, List.drop_zero, List.drop_succ_cons, List.drop_nil, List.append_nil, Nat.reduceLeDiff, Nat.le_refl, vsplice, Nat.reduceLT, Int.toNat_natCast, eq_self, ge_iff_le, Bool.and_eq_true, Nat.reduceSub, vrow_D0, vrow_Dk, set_D0, set_Dk, len_D, List.append_assoc, Nat.le_add_right, take_Dk, take_D0, List.length_replicate]
        refine ⟨i + 1, by omega, by omega, ⟨?_, ?_, ?_, ?_, ?_, ?_, ?_, ?_⟩, ?_⟩
        all_goals first | (simp only [h0, h1, h2, h3, h9, h10, h11, h12, VX, Nat.reduceEqDiff, Nat.reduceAdd]; done) | skip
        rw [hstep]
        (repeat' apply And.intro) <;> first | rfl | trivial
  · have hie : i = ends.length := by omega
    subst hie
    simp only [impl_starts_b0, h43, h44, hin, VX, Nat.reduceEqDiff, Nat.reduceAdd]
    rw [List.take_of_length_le (Nat.le_refl _)]
    exact ⟨⟨⟨by simp only [h0, VX, Nat.reduceEqDiff, Nat.reduceAdd], by simp only [h1, VX, Nat.reduceEqDiff, Nat.reduceAdd], by simp only [h2, VX, Nat.reduceEqDiff, Nat.reduceAdd], by simp only [h3, VX, Nat.reduceEqDiff, Nat.reduceAdd], by simp only [h9, VX, Nat.reduceEqDiff, Nat.reduceAdd], by simp only [h10, VX, Nat.reduceEqDiff, Nat.reduceAdd], by simp only [h11, VX, Nat.reduceEqDiff, Nat.reduceAdd], by simp only [h12, VX, Nat.reduceEqDiff, Nat.reduceAdd]⟩, by simp only [h13, VX, Nat.reduceEqDiff, Nat.reduceAdd]⟩, rfl⟩

set_option maxHeartbeats 1000000 in
/-- Those who come. -/
theorem impl_starts_b1_w {rule srv room : Int} {cs : List Cust} (Y : StSys rule srv room cs) (hc : custsOk cs) {n lo m g1 g2 come : Nat} {ws wall : List Nat} {ends eall st : List Int} {now : Int} {ρ : VEnv} (hlo : lo ≤ n) (hA : Y.A m now come ws ends st) (hE : StE rule srv room cs n g1 ws.length wall.length g2 ends.length eall.length come ρ) (h13 : ρ 13 = .ptr (n + 3) 0 0 0) (hw : Part wall ws) :
    VW ⟨true, false⟩ lo (.block 4 (.loop impl_starts_b1)) (fun e ρ' H => e = .normal ∧ ∃ come' ws' g1' wall', Y.S m now come' ws' ends st ∧ Part wall' ws' ∧ StE rule srv room cs n g1' ws'.length wall'.length g2 ends.length eall.length come' ρ' ∧ ρ' 13 = .ptr (n + 3) 0 0 0 ∧
      H = List.replicate n .dead ++ (stH st g1' wall' g2 eall ++ [VBlk.row 0 [VI now] 1 true])) ρ (List.replicate n .dead ++ (stH st g1 wall g2 eall ++ [VBlk.row 0 [VI now] 1 true])) := by
  rw [VW_block]
  refine VW_loop (fun (s : Nat × List Nat × Nat × List Nat) ρ' H => Y.A m now s.1 s.2.1 ends st ∧ Part s.2.2.2 s.2.1 ∧ StE rule srv room cs n s.2.2.1 s.2.1.length s.2.2.2.length g2 ends.length eall.length s.1 ρ' ∧ ρ' 13 = .ptr (n + 3) 0 0 0 ∧
    H = List.replicate n .dead ++ (stH st s.2.2.1 s.2.2.2 g2 eall ++ [VBlk.row 0 [VI now] 1 true])) (fun s => cs.length - s.1) (come, ws, g1, wall) ⟨hA, hw, hE, h13, rfl⟩ ?_
  clear hA hw hE h13 ρ
  rintro ⟨come, ws, g1, wall⟩ ρ H ⟨hA, hw, ⟨h0, h1, h2, h3, h9, h10, h11, h12⟩, h13, rfl⟩
  simp only at hA hw h10 h12
  obtain ⟨hcl, hsl, hwl, hel⟩ := Y.bA hA
  have hlen := hc.2
  by_cases hin : (come : Int) < (cs.length : Int)
  · have hcl' : come < cs.length := by omega
    obtain ⟨x, hx⟩ : ∃ x, cs[come]? = some x := ⟨_, List.getElem?_eq_getElem hcl'⟩
    have e1 := fun H => viaddr_map (f := cV) (t := .op) (H := H) (size := 3) (k := .i64) hx rfl
    have rds : ∀ v : Int, rdCells false 1 (VI v) 0 = some (VI v) := fun _ => rfl
    by_cases hat : x.t = now
    · have hA' := Y.stepA hA hcl' (by rw [atC_of hx]; exact hat)
      have w1 : IntKind.i64.wrap ((ws.length : Int) + (ends.length : Int)) = (ws.length : Int) + (ends.length : Int) := wrap64 (by omega) (by omega)
      have wi : IntKind.i64.wrap ((come : Int) + 1) = ((come + 1 : Nat) : Int) := wrapN (come + 1) (by omega) (by omega)
      by_cases hr : (ws.length : Int) + (ends.length : Int) < room
      · rw [if_pos hr] at hA'
        obtain ⟨g1', wall', eQ, hk2, htk2⟩ := vappend_part (f := kV) (all := wall) (x := come) (lo := lo) (b := n + 1) (g := g1) (k := ws.length) (e := 1) (bytes := 8) (H := List.replicate n .dead ++ (stH st g1 wall g2 eall ++ [VBlk.row 0 [VI now] 1 true]))
          (by rw [vrow_Dk]; simp only [stH, List.cons_append, vrow_succ, vrow_zero]) hw.le (by omega) (by decide) (by decide) (by omega)
        simp only [stH, List.cons_append, List.nil_append, set_Dk, List.set_cons_succ, List.set_cons_zero] at eQ
        have eL : ∀ H, vlit false [.int .i64 0] 1 [(0, VI come)] H = some (.tree [VI come] (.cl 1), H) := fun H => vlit_one rfl rfl rfl
        have eS : ∀ H, vsource 1 (.tree [VI come] (.cl 1)) H = some [VI come] := fun H => vsource_one rfl rfl
        simp only [impl_starts_b1, stH, h0, h1, h2, h3, h9, h10, h11, h12, h13, hin, e1, rd_cV, rds, hat, eq_self, w1, wi, hr, eL, eS, eQ, cV, List.cons_append, List.nil_append, List.getElem?_cons_zero, VX, Nat.reduceEqDiff, Nat.reduceAdd, vload_pdef, vstore_pdef, viaddr_rdef, vlen_rdef, vfaddr_pdef, vchk_pdef, visnil_rdef, visnil_nil, visnil_cons, vrow_zero, vrow_succ, List.set_cons_zero, List.set_cons_succ, elemOf_one, elemOf_two, vresult, vresAll, vres1, vfill, isAny_sc, isAny_tree, isAny_ref, isAny_agg, isAny_clo, List.take_zero, List.take_succ_cons, List.take_nil, List.drop_zero, List.drop_succ_cons, List.drop_nil, List.append_nil, Nat.reduceLeDiff, Nat.le_refl, vsplice, Nat.reduceLT, Int.toNat_natCast, eq_self, ge_iff_le, Bool.and_eq_true, Nat.reduceSub, vrow_D0, vrow_Dk, set_D0, set_Dk, len_D, List.append_assoc, Nat.le_add_right, take_Dk, take_D0, List.length_replicate]
        refine ⟨(come + 1, ws ++ [come], g1', wall'), by simp only; omega, hA', ⟨by simp; omega, by simp only [List.length_append, List.length_cons, List.length_nil, Nat.zero_add]; rw [htk2, hw.tk]⟩, ⟨?_, ?_, ?_, ?_, ?_, ?_, ?_, ?_⟩, ?_⟩
        all_goals first | (simp only [h0, h1, h2, h3, h9, h10, h11, h12, List.length_append, List.length_cons, List.length_nil, Nat.zero_add, VX, Nat.reduceEqDiff, Nat.reduceAdd]; done) | skip
      · rw [if_neg hr] at hA'
        simp only [impl_starts_b1, stH, h0, h1, h2, h3, h9, h10, h11, h12, h13, hin, e1, rd_cV, rds, hat, eq_self, w1, wi, hr, cV, List.cons_append, List.nil_append, List.getElem?_cons_zero, VX, Nat.reduceEqDiff, Nat.reduceAdd, vload_pdef, vstore_pdef, viaddr_rdef, vlen_rdef, vfaddr_pdef, vchk_pdef, visnil_rdef, visnil_nil, visnil_cons, vrow_zero, vrow_succ, List.set_cons_zero, List.set_cons_succ, elemOf_one, elemOf_two, vresult, vresAll, vres1, vfill, isAny_sc, isAny_tree, isAny_ref, isAny_agg, isAny_clo, List.take_zero, List.take_succ_cons, List.take_nil, List.drop_zero, List.drop_succ_cons, List.drop_nil, List.append_nil, Nat.reduceLeDiff, Nat.le_refl, vsplice, Nat.reduceLT, Int.toNat_natCast, eq_self, ge_iff_le, Bool.and_eq_true, Nat.reduceSub, vrow_D0, vrow_Dk, set_D0, set_Dk, len_D, List.append_assoc, Nat.le_add_right, take_Dk, take_D0, List.length_replicate]
        refine ⟨(come + 1, ws, g1, wall), by simp only; omega, hA', hw, ⟨?_, ?_, ?_, ?_, ?_, ?_, ?_, ?_⟩, ?_⟩
        all_goals first | (simp only [h0, h1, h2, h3, h9, h10, h11, h12, VX, Nat.reduceEqDiff, Nat.reduceAdd]; done) | skip
    · have hS := Y.toS hA fun h => hat (by rw [← atC_of hx]; exact h.2)
      simp only [impl_starts_b1, stH, h0, h1, h2, h3, h9, h10, h11, h12, h13, hin, e1, rd_cV, rds, hat, cV, List.cons_append, List.nil_append, List.getElem?_cons_zero, VX, Nat.reduceEqDiff, Nat.reduceAdd, vload_pdef, vstore_pdef, viaddr_rdef, vlen_rdef, vfaddr_pdef, vchk_pdef, visnil_rdef, visnil_nil, visnil_cons, vrow_zero, vrow_succ, List.set_cons_zero, List.set_cons_succ, elemOf_one, elemOf_two, vresult, vresAll, vres1, vfill, isAny_sc, isAny_tree, isAny_ref, isAny_agg, isAny_clo, List.take_zero, List.take_succ_cons, List.take_nil, List.drop_zero, List.drop_succ_cons, List.drop_nil, List.append_nil, Nat.reduceLeDiff, Nat.le_refl, vsplice, Nat.reduceLT, Int.toNat_natCast, eq_self, ge_iff_le, Bool.and_eq_true, Nat.reduceSub, vrow_D0, vrow_Dk, set_D0, set_Dk, len_D, List.append_assoc, Nat.le_add_right, take_Dk, take_D0, List.length_replicate]
      refine ⟨come, ws, g1, wall, hS, hw, ⟨?_, ?_, ?_, ?_, ?_, ?_, ?_, ?_⟩, ?_⟩
      all_goals first | (simp only [h0, h1, h2, h3, h9, h10, h11, h12, VX, Nat.reduceEqDiff, Nat.reduceAdd]; done) | skip
  · have hS := Y.toS hA fun h => by omega
    simp only [impl_starts_b1, stH, h0, h1, h2, h3, h9, h10, h11, h12, h13, hin, List.cons_append, List.nil_append, VX, Nat.reduceEqDiff, Nat.reduceAdd, vload_pdef, vstore_pdef, viaddr_rdef, vlen_rdef, vfaddr_pdef, vchk_pdef, visnil_rdef, visnil_nil, visnil_cons, vrow_zero, vrow_succ, List.set_cons_zero, List.set_cons_succ, elemOf_one, elemOf_two, vresult, vresAll, vres1, vfill, isAny_sc, isAny_tree, isAny_ref, isAny_agg, isAny_clo, List.take_zero, List.take_succ_cons, List.take_nil, List.drop_zero, List.drop_succ_cons, List.drop_nil, List.append_nil, Nat.reduceLeDiff, Nat.le_refl, vsplice, Nat.reduceLT, Int.toNat_natCast, eq_self, ge_iff_le, Bool.and_eq_true, Nat.reduceSub, vrow_D0, vrow_Dk, set_D0, set_Dk, len_D, List.append_assoc, Nat.le_add_right, take_Dk, take_D0, List.length_replicate]
    refine ⟨come, ws, g1, wall, hS, hw, ⟨?_, ?_, ?_, ?_, ?_, ?_, ?_, ?_⟩, ?_⟩
    all_goals first | (simp only [h0, h1, h2, h3, h9, h10, h11, h12, VX, Nat.reduceEqDiff, Nat.reduceAdd]; done) | skip

set_option maxHeartbeats 2000000 in
/-- Those who start. -/
theorem impl_starts_b2_w {rule srv room : Int} {cs : List Cust} (Y : StSys rule srv room cs) (hc : custsOk cs) (hr : 0 ≤ rule ∧ rule ≤ 3) {n lo m g1 g2 come : Nat} {ws wall : List Nat} {ends eall st : List Int} {now : Int} {ρ : VEnv} (hlo : lo ≤ n) (hS : Y.S m now come ws ends st) (hE : StE rule srv room cs n g1 ws.length wall.length g2 ends.length eall.length come ρ) (h13 : ρ 13 = .ptr (n + 3) 0 0 0) (hw : Part wall ws) (he : Part eall ends) (hsrv : srv ≤ 8) :
    VW ⟨true, false⟩ lo (.block 6 (.loop impl_starts_b2)) (fun e ρ' H => e = .normal ∧ ∃ ws' ends' st' g1' wall' g2' eall' m', m' < m ∧ Y.I m' come ws' ends' st' ∧ Part wall' ws' ∧ Part eall' ends' ∧ StE rule srv room cs n g1' ws'.length wall'.length g2' ends'.length eall'.length come ρ' ∧ ρ' 13 = .ptr (n + 3) 0 0 0 ∧
      H = List.replicate n .dead ++ (stH st' g1' wall' g2' eall' ++ [.row 0 [VI now] 1 true])) ρ (List.replicate n .dead ++ (stH st g1 wall g2 eall ++ [VBlk.row 0 [VI now] 1 true])) := by
  rw [VW_block]
  refine VW_loop (fun (s : List Nat × List Int × List Int × Nat × List Nat × Nat × List Int) ρ' H => Y.S m now come s.1 s.2.1 s.2.2.1 ∧ Part s.2.2.2.2.1 s.1 ∧ Part s.2.2.2.2.2.2 s.2.1 ∧ StE rule srv room cs n s.2.2.2.1 s.1.length s.2.2.2.2.1.length s.2.2.2.2.2.1 s.2.1.length s.2.2.2.2.2.2.length come ρ' ∧ ρ' 13 = .ptr (n + 3) 0 0 0 ∧
    H = List.replicate n .dead ++ (stH s.2.2.1 s.2.2.2.1 s.2.2.2.2.1 s.2.2.2.2.2.1 s.2.2.2.2.2.2 ++ [.row 0 [VI now] 1 true])) (fun s => s.1.length) (ws, ends, st, g1, wall, g2, eall) ⟨hS, hw, he, hE, h13, rfl⟩ ?_
  clear hS hw he hE h13 ρ
  rintro ⟨ws, ends, st, g1, wall, g2, eall⟩ ρ H ⟨hS, hw, he, ⟨h0, h1, h2, h3, h9, h10, h11, h12⟩, h13, rfl⟩
  simp only at hS hw he h10 h11
  obtain ⟨hcl, hsl, hwl, hel, hwi, hnow⟩ := Y.bS hS
  have hlen := hc.2
  by_cases q1 : (ends.length : Int) < srv
  · by_cases q2 : (0 : Int) < (ws.length : Int)
    · obtain ⟨k, hk, hS'⟩ := Y.stepS hS q1 (by omega)
      have hpl := (List.getElem?_eq_some_iff.1 hk).1
      have hkN := hwi k (List.mem_of_getElem? hk)
      obtain ⟨x, hx⟩ : ∃ x, cs[k]? = some x := ⟨_, List.getElem?_eq_getElem hkN⟩
      have hb := hc.at hx
      rw [wkC_of hx] at hS'
      have e1 := fun H => viaddr_map (f := cV) (t := .op) (H := H) (size := 3) (k := .i64) hx rfl
      have rds : ∀ v : Int, rdCells false 1 (VI v) 0 = some (VI v) := fun _ => rfl
      have r1 : vrow (List.replicate n .dead ++ [.row 0 (st.map nV) 1 true, .row g1 (wall.map kV) 1 true, .row g2 (eall.map nV) 1 true, .row 0 [VI now] 1 true]) (n + 1) g1 = some (wall.map kV, 1, true) := by rw [vrow_Dk]; simp only [vrow_succ, vrow_zero]
      have eN : ∀ lo K, vcallP 107 [VI rule, .ref (n + 1) g1 0 ws.length wall.length, custsV cs] lo (List.replicate n .dead ++ [.row 0 (st.map nV) 1 true, .row g1 (wall.map kV) 1 true, .row g2 (eall.map nV) 1 true, .row 0 [VI now] 1 true]) K = K (VI (nextP rule cs ws)) (List.replicate n .dead ++ [.row 0 (st.map nV) 1 true, .row g1 (wall.map kV) 1 true, .row g2 (eall.map nV) 1 true, .row 0 [VI now] 1 true]) := fun lo K =>
        TC.flat (impl_next_v rule cs ws hr hwi (by omega) (by omega)) rfl (by simp only [pureL, custsV_pure, ids_pure]; rfl) (fz3 (fz_res rfl) (hw.fz (fun _ => rfl) r1) (fz_res (custsV_pure _))) rfl lo K
      have hap : (wall.map kV)[nextP rule cs ws]? = some (VI k) := by rw [List.getElem?_map, hw.get hk]; rfl
      have hge : (0 : Int) ≤ (nextP rule cs ws : Int) := by omega
      have hpl' : (nextP rule cs ws : Int) < (ws.length : Int) := by omega
      have wp : IntKind.i64.wrap ((nextP rule cs ws : Int) + 1) = ((nextP rule cs ws + 1 : Nat) : Int) := wrapN _ (by omega) (by omega)
      simp only [impl_starts_b2, stH, h0, h1, h2, h3, h9, h10, h11, h12, h13, q1, q2, eN, hap, hge, hpl', rds, wp, List.cons_append, List.nil_append, List.getElem?_cons_zero, VX, Nat.reduceEqDiff, Nat.reduceAdd, vload_pdef, vstore_pdef, viaddr_rdef, vlen_rdef, vfaddr_pdef, vchk_pdef, visnil_rdef, visnil_nil, visnil_cons, vrow_zero, vrow_succ, List.set_cons_zero, List.set_cons_succ, elemOf_one, elemOf_two, vresult, vresAll, vres1, vfill, isAny_sc, isAny_tree, isAny_ref, isAny_agg, isAny_clo, List.take_zero, List.take_succ_cons, List.take_nil, List.drop_zero, List.drop_succ_cons, List.drop_nil, List.append_nil, Nat.reduceLeDiff, Nat.le_refl, vsplice, Nat.reduceLT, Int.toNat_natCast, eq_self, ge_iff_le, Bool.and_eq_true, Nat.reduceSub, vrow_D0, vrow_Dk, set_D0, set_Dk, len_D, List.append_assoc, Nat.le_add_right, take_Dk, take_D0, List.length_replicate]
      refine vcall_raw rfl ((slices_Delete_int_v (lo := lo) r1 (by omega) hpl hw.le rfl).mono ?_)
      rintro r H' ⟨wall1, rfl, rfl, hl1, ht1⟩
      have hk0 : (0 : Int) ≤ (k : Int) := by omega
      have hkN' : (k : Int) < (cs.length : Int) := by omega
      have wn : IntKind.i64.wrap (now + x.w) = now + x.w := wrap64 (by omega) (by omega)
      have eO : ∀ (B : VHeap) (v : Int), vstore lo 1 (.ptr n 0 k 0) (VI v) (List.replicate n .dead ++ (.row 0 (st.map nV) 1 true :: B)) = some (List.replicate n .dead ++ (.row 0 ((st.set k v).map nV) 1 true :: B)) := fun B v => by
        have := vstore_map (f := nV) (xs := st) (x := v) (e := 1) (g := 0) (j := k) (b := n) (lo := lo) (H := List.replicate n .dead ++ (.row 0 (st.map nV) 1 true :: B)) (by rw [vrow_D0, vrow_zero]) (by omega) hlo rfl rfl
        rw [set_D0] at this
        exact this
      obtain ⟨g2', eall', eQ, hk2, htk2⟩ := vappend_part (f := nV) (all := eall) (x := now + x.w) (lo := lo) (b := n + 2) (g := g2) (k := ends.length) (e := 1) (bytes := 8) (H := List.replicate n .dead ++ [.row 0 ((st.set k now).map nV) 1 true, .row g1 (wall1.map kV) 1 true, .row g2 (eall.map nV) 1 true, .row 0 [VI now] 1 true])
        (by rw [vrow_Dk]; simp only [vrow_succ, vrow_zero]) he.le (by omega) (by decide) (by decide) (by omega)
      simp only [set_Dk, List.set_cons_succ, List.set_cons_zero] at eQ
      have eL : ∀ (v : Int) H, vlit false [.int .i64 0] 1 [(0, VI v)] H = some (.tree [VI v] (.cl 1), H) := fun v H => vlit_one rfl rfl rfl
      have eS : ∀ (v : Int) H, vsource 1 (.tree [VI v] (.cl 1)) H = some [VI v] := fun v H => vsource_one rfl rfl
      have hwle := hw.le
      have hele := he.le
      have hdl : (ws.eraseIdx (nextP rule cs ws)).length = ws.length - 1 := List.length_eraseIdx_of_lt hpl
      simp only [set_Dk, List.set_cons_succ, List.set_cons_zero, h0, h1, h2, h3, h9, h10, h11, h12, h13, hk0, hkN', e1, rd_cV, rds, wn, eO, eL, eS, eQ, cV, List.getElem?_cons_zero, VX, Nat.reduceEqDiff, Nat.reduceAdd, vload_pdef, vstore_pdef, viaddr_rdef, vlen_rdef, vfaddr_pdef, vchk_pdef, visnil_rdef, visnil_nil, visnil_cons, vrow_zero, vrow_succ, List.set_cons_zero, List.set_cons_succ, elemOf_one, elemOf_two, vresult, vresAll, vres1, vfill, isAny_sc, isAny_tree, isAny_ref, isAny_agg, isAny_clo, List.take_zero, List.take_succ_cons, List.take_nil, List.drop_zero, List.drop_succ_cons, List.drop_nil, List.append_nil, Nat.reduceLeDiff, Nat.le_refl, vsplice, Nat.reduceLT, Int.toNat_natCast, eq_self, ge_iff_le, Bool.and_eq_true, Nat.reduceSub, vrow_D0, vrow_Dk, set_D0, set_Dk, len_D, List.append_assoc, Nat.le_add_right, take_Dk, take_D0, List.length_replicate]
      refine ⟨(ws.eraseIdx (nextP rule cs ws), ends ++ [now + x.w], st.set k now, g1, wall1, g2', eall'), by simp only; omega, hS', ⟨by simp only; omega, by simp only; rw [hdl, ht1, hw.tk]⟩, ⟨by simp; omega, by simp only [List.length_append, List.length_cons, List.length_nil, Nat.zero_add]; rw [htk2, he.tk]⟩, ⟨?_, ?_, ?_, ?_, ?_, ?_, ?_, ?_⟩, ?_⟩
      all_goals first | (simp only [h0, h1, h2, h3, h9, h10, h11, h12, hdl, hl1, List.length_append, List.length_cons, List.length_nil, Nat.zero_add, VX, Nat.reduceEqDiff, Nat.reduceAdd]; done) | skip
    · obtain ⟨m', hm, hI⟩ := Y.toI hS fun h => by omega
      simp only [impl_starts_b2, stH, h0, h1, h2, h3, h9, h10, h11, h12, h13, q1, q2, List.cons_append, List.nil_append, VX, Nat.reduceEqDiff, Nat.reduceAdd, vload_pdef, vstore_pdef, viaddr_rdef, vlen_rdef, vfaddr_pdef, vchk_pdef, visnil_rdef, visnil_nil, visnil_cons, vrow_zero, vrow_succ, List.set_cons_zero, List.set_cons_succ, elemOf_one, elemOf_two, vresult, vresAll, vres1, vfill, isAny_sc, isAny_tree, isAny_ref, isAny_agg, isAny_clo, List.take_zero, List.take_succ_cons, List.take_nil, List.drop_zero, List.drop_succ_cons, List.drop_nil, List.append_nil, Nat.reduceLeDiff, Nat.le_refl, vsplice, Nat.reduceLT, Int.toNat_natCast, eq_self, ge_iff_le, Bool.and_eq_true, Nat.reduceSub, vrow_D0, vrow_Dk, set_D0, set_Dk, len_D, List.append_assoc, Nat.le_add_right, take_Dk, take_D0, List.length_replicate]
      refine ⟨ws, ends, st, g1, wall, g2, eall, m', hm, hI, hw, he, ⟨?_, ?_, ?_, ?_, ?_, ?_, ?_, ?_⟩, ?_⟩
      all_goals first | (simp only [h0, h1, h2, h3, h9, h10, h11, h12, VX, Nat.reduceEqDiff, Nat.reduceAdd]; done) | skip
  · obtain ⟨m', hm, hI⟩ := Y.toI hS fun h => q1 h.1
    simp only [impl_starts_b2, stH, h0, h1, h2, h3, h9, h10, h11, h12, h13, q1, List.cons_append, List.nil_append, VX, Nat.reduceEqDiff, Nat.reduceAdd, vload_pdef, vstore_pdef, viaddr_rdef, vlen_rdef, vfaddr_pdef, vchk_pdef, visnil_rdef, visnil_nil, visnil_cons, vrow_zero, vrow_succ, List.set_cons_zero, List.set_cons_succ, elemOf_one, elemOf_two, vresult, vresAll, vres1, vfill, isAny_sc, isAny_tree, isAny_ref, isAny_agg, isAny_clo, List.take_zero, List.take_succ_cons, List.take_nil, List.drop_zero, List.drop_succ_cons, List.drop_nil, List.append_nil, Nat.reduceLeDiff, Nat.le_refl, vsplice, Nat.reduceLT, Int.toNat_natCast, eq_self, ge_iff_le, Bool.and_eq_true, Nat.reduceSub, vrow_D0, vrow_Dk, set_D0, set_Dk, len_D, List.append_assoc, Nat.le_add_right, take_Dk, take_D0, List.length_replicate]
    refine ⟨ws, ends, st, g1, wall, g2, eall, m', hm, hI, hw, he, ⟨?_, ?_, ?_, ?_, ?_, ?_, ?_, ?_⟩, ?_⟩
    all_goals first | (simp only [h0, h1, h2, h3, h9, h10, h11, h12, VX, Nat.reduceEqDiff, Nat.reduceAdd]; done) | skip

def impl_starts_rest : PCode := (.seq (.seq (.reg [⟨(some 42), (.mv (.tmp 11)), none, false, []⟩, ⟨(some 43), (.len (.tmp 42)), none, false, []⟩, ⟨(some 44), (.mv (.const (.int .i64 0))), none, false, []⟩]) (.block 2 (.loop impl_starts_b0))) (.seq (.reg [⟨(some 62), (.mv (.tmp 11)), none, false, []⟩, ⟨(some 63), (.mkfn 106 [(.tmp 13)]), none, false, []⟩, ⟨(some 64), (.call 105 [(.tmp 62), (.tmp 63)]), none, false, []⟩, ⟨(some 11), (.mv (.tmp 64)), none, false, []⟩]) (.seq (.block 4 (.loop impl_starts_b1)) (.block 6 (.loop impl_starts_b2)))))
theorem impl_starts_b3_is : impl_starts_b3 = (.seq (.seq (.reg [⟨(some 24), (.mv (.tmp 12)), none, false, []⟩, ⟨(some 25), (.mv (.tmp 3)), none, false, []⟩, ⟨(some 26), (.len (.tmp 25)), none, false, []⟩, ⟨(some 27), (.bin .lss (.tmp 24) (.tmp 26)), none, false, []⟩, ⟨(some 28), (.mv (.tmp 27)), none, false, []⟩, ⟨(some 29), (.mv (.tmp 10)), (some (28, false)), false, []⟩, ⟨(some 30), (.len (.tmp 29)), (some (28, false)), false, []⟩, ⟨(some 31), (.bin .gtr (.tmp 30) (.const (.int .i64 0))), (some (28, false)), false, []⟩, ⟨(some 32), (.pick (.tmp 28) (.const (.bool true)) (.tmp 31)), none, false, []⟩]) (.cond (.tmp 32) .skip (.exit 0))) (.block 1 (.seq (.reg [⟨(some 13), (.new [(.int .i64 0)]), none, false, []⟩, ⟨none, (.store 1 (.tmp 13) (.const (.int .i64 (-1)))), none, false, []⟩]) (.seq (.seq (.reg [⟨(some 33), (.mv (.tmp 12)), none, false, []⟩, ⟨(some 34), (.mv (.tmp 3)), none, false, []⟩, ⟨(some 35), (.len (.tmp 34)), none, false, []⟩, ⟨(some 36), (.bin .lss (.tmp 33) (.tmp 35)), none, false, []⟩]) (.cond (.tmp 36) (.reg [⟨(some 37), (.mv (.tmp 3)), none, false, []⟩, ⟨(some 38), (.mv (.tmp 12)), none, false, []⟩, ⟨(some 39), (.iaddr 3 (.tmp 37) (.tmp 38)), none, false, []⟩, ⟨(some 40), (.faddr 0 (.tmp 39)), none, false, []⟩, ⟨(some 41), (.load false 1 (.tmp 40)), none, false, []⟩, ⟨none, (.store 1 (.tmp 13) (.tmp 41)), none, false, []⟩]) .skip)) impl_starts_rest)))) := rfl

theorem take_stH {n g1 g2 : Nat} {st eall : List Int} {wall : List Nat} {b : VBlk} : (List.replicate n VBlk.dead ++ (stH st g1 wall g2 eall ++ [b])).take (n + 3) = List.replicate n VBlk.dead ++ stH st g1 wall g2 eall := by
  rw [take_Dk]
  rfl
theorem below_stH {n g1 g2 : Nat} {st eall : List Int} {wall : List Nat} : rowsBelow (n + 3) (List.replicate n VBlk.dead ++ stH st g1 wall g2 eall) = true := by
  rw [below_D]
  unfold stH
  rw [below_row (below_pureL _ (nums_pureL _)), below_row (below_pureL _ (pure_map (f := kV) fun _ => rfl)), below_row (below_pureL _ (nums_pureL _)), below_nil]
theorem StE.scrub {rule srv room : Int} {cs : List Cust} {n g1 k1 c1 g2 k2 c2 come : Nat} {ρ : VEnv} (h : StE rule srv room cs n g1 k1 c1 g2 k2 c2 come ρ) : StE rule srv room cs n g1 k1 c1 g2 k2 c2 come (scrubE (n + 3) ρ) := by
  obtain ⟨h0, h1, h2, h3, h9, h10, h11, h12⟩ := h
  refine ⟨?_, ?_, ?_, ?_, ?_, ?_, ?_, ?_⟩
  · rw [scrubE_app, h0]; rfl
  · rw [scrubE_app, h1]; rfl
  · rw [scrubE_app, h2]; rfl
  · rw [scrubE_app, h3, scrub_of (custsV_pure _)]
  · rw [scrubE_app, h9, scrub_ref (by omega)]
  · rw [scrubE_app, h10, scrub_ref (by omega)]
  · rw [scrubE_app, h11, scrub_ref (by omega)]
  · rw [scrubE_app, h12]; rfl
set_option maxHeartbeats 2000000 in
theorem impl_starts_w {rule srv room : Int} {cs : List Cust} (Y : StSys rule srv room cs) (hc : custsOk cs) (hr : 0 ≤ rule ∧ rule ≤ 3) (hsrv : srv ≤ 8) :
    FC 87 [VI rule, VI srv, VI room, custsV cs] fun n r L => ∃ m come ws ends st, Y.I m come ws ends st ∧ ¬ come < cs.length ∧ ¬ 0 < ws.length ∧ r = .ref n 0 0 cs.length cs.length ∧ L[0]? = some (.row 0 (st.map nV) 1 true) := by
  refine FC.walk ⟨true, false⟩ impl_starts_t (Nat.le_of_ble_eq_true rfl) fun n => ?_
  have hlen := hc.2
  have eL : ∀ H, vlit false [.int .i64 0] 1 [(0, VI (-1))] H = some (.tree [VI (-1)] (.cl 1), H) := fun H => vlit_one rfl rfl rfl
  have e0 := fun H => vlit_nil (H := H) (lr := false) (z := [.int .i64 0]) rfl
  simp only [impl_starts, impl_starts_c, eL, VX, Nat.reduceEqDiff, Nat.reduceAdd, vrow_D0, vrow_Dk, set_D0, set_Dk, len_D, List.append_assoc, Nat.le_add_right, take_Dk, take_D0, List.length_replicate]
  refine FC.call (slices_Repeat_i64_v (-1) cs.length (by omega)) rfl (fz2 (fz_cl rfl) (fz_res rfl)) ?_
  rintro r L ⟨rfl, rfl⟩
  rw [List.length_replicate]
  simp only [e0, List.cons_append, List.nil_append, List.length_cons, List.length_nil, VX, Nat.reduceEqDiff, Nat.reduceAdd, vrow_D0, vrow_Dk, set_D0, set_Dk, len_D, List.append_assoc, Nat.le_add_right, take_Dk, take_D0, List.length_replicate]
  obtain ⟨m0, hI0⟩ := Y.start
  refine VW_loopT (fun (m : Nat) ρ H => ∃ come ws ends st g1 wall g2 eall, Y.I m come ws ends st ∧ Part wall ws ∧ Part eall ends ∧ StE rule srv room cs n g1 ws.length wall.length g2 ends.length eall.length come ρ ∧ H = List.replicate n VBlk.dead ++ stH st g1 wall g2 eall) (fun m => m) m0 ?_ ?_
  · refine ⟨0, [], [], List.replicate cs.length (-1), 0, [], 0, [], hI0, ⟨Nat.le_refl _, rfl⟩, ⟨Nat.le_refl _, rfl⟩, ⟨?_, ?_, ?_, ?_, ?_, ?_, ?_, ?_⟩, rfl⟩
    all_goals simp only [VX, Nat.reduceEqDiff, Nat.reduceAdd]
    all_goals rfl
  rintro m ρ H ⟨come, ws, ends, st, g1, wall, g2, eall, hI, hw, he, ⟨h0, h1, h2, h3, h9, h10, h11, h12⟩, rfl⟩
  obtain ⟨hcl, hsl, hwl, hel⟩ := Y.bI hI
  have r2 : ∀ b, vrow (List.replicate n .dead ++ (stH st g1 wall g2 eall ++ [VBlk.row 0 [VI b] 1 true])) (n + 2) g2 = some (eall.map nV, 1, true) := fun b => by rw [vrow_Dk]; simp only [stH, List.cons_append, vrow_succ, vrow_zero]
  have r3 : ∀ b, vrow (List.replicate n .dead ++ (stH st g1 wall g2 eall ++ [VBlk.row 0 [VI b] 1 true])) (n + 3) 0 = some ([VI b], 1, true) := fun b => by rw [vrow_Dk]; simp only [stH, List.cons_append, List.nil_append, vrow_succ, vrow_zero]
  -- what follows once the tick is looked for
  have rest : ∀ ρ', StE rule srv room cs n g1 ws.length wall.length g2 ends.length eall.length come ρ' → ρ' 13 = .ptr (n + 3) 0 0 0 → (come < cs.length ∨ 0 < ws.length) →
      VW ⟨true, false⟩ n impl_starts_rest
        (fun e ρ' H => e = .normal ∧ ∃ m', m' < m ∧ ∃ come ws ends st g1 wall g2 eall now, Y.I m' come ws ends st ∧ Part wall ws ∧ Part eall ends ∧ StE rule srv room cs n g1 ws.length wall.length g2 ends.length eall.length come ρ' ∧ H = List.replicate n VBlk.dead ++ (stH st g1 wall g2 eall ++ [VBlk.row 0 [VI now] 1 true])) ρ' (List.replicate n .dead ++ (stH st g1 wall g2 eall ++ [VBlk.row 0 [VI (now0 cs come)] 1 true])) := by
    clear h0 h1 h2 h3 h9 h10 h11 h12
    intro ρ' hE h13 hg
    have hA := Y.toA hI hg
    obtain ⟨h0, h1, h2, h3, h9, h10, h11, h12⟩ := hE
    have el := vlen_ref (o := 0) (n := ends.length) (c := eall.length) (r2 (now0 cs come))
    simp only [impl_starts_rest, h11, el, VX, Nat.reduceEqDiff, Nat.reduceAdd]
    refine VW_use (impl_starts_b0_w (ws := ws) (wall := wall) (st := st) (rule := rule) (srv := srv) (room := room) (cs := cs) (come := come) (Nat.le_refl n) ⟨?_, ?_, ?_, ?_, ?_, ?_, ?_, ?_⟩ ?_ ?_ ?_ ?_ he hel) ?_
    all_goals first | (simp only [h0, h1, h2, h3, h9, h10, h11, h12, h13, VX, Nat.reduceEqDiff, Nat.reduceAdd]; done) | skip
    clear h0 h1 h2 h3 h9 h10 h11 h12 h13
    rintro ρ1 H1 ⟨⟨⟨h0, h1, h2, h3, h9, h10, h11, h12⟩, h13⟩, rfl⟩
    change Y.A m (ends.foldl (mnF (decide (0 < ws.length))) (now0 cs come)) come ws (ends.filter (gtB (ends.foldl (mnF (decide (0 < ws.length))) (now0 cs come)))) st at hA
    generalize ends.foldl (mnF (decide (0 < ws.length))) (now0 cs come) = now at *
    simp only [h11, h13, VX, Nat.reduceEqDiff, Nat.reduceAdd]
    refine vcall_raw rfl ((slices_DeleteFunc_i64_v (p := fun x => decide (x ≤ now)) (r2 now) (r3 now) (by omega) (by omega) he.le rfl (by omega) (fun x => impl_starts_1_v x now) rfl).mono ?_)
    rintro r H' ⟨eall1, rfl, rfl, hl1, ht1⟩
    have hfe : (ends.filter fun x => !decide (x ≤ now)) = ends.filter (gtB now) := by
      refine List.filter_congr fun x _ => ?_
      rw [Bool.eq_iff_iff]
      simp [gtB]
    rw [he.tk, hfe] at ht1
    rw [he.tk, hfe]
    have he1 : Part eall1 (ends.filter (gtB now)) := ⟨by
      have := List.length_filter_le (gtB now) ends
      have := he.le
      omega, ht1⟩
    have hH : (List.replicate n VBlk.dead ++ (stH st g1 wall g2 eall ++ [VBlk.row 0 [VI now] 1 true])).set (n + 2) (.row g2 (eall1.map nV) 1 true) = List.replicate n VBlk.dead ++ (stH st g1 wall g2 eall1 ++ [.row 0 [VI now] 1 true]) := by
      rw [set_Dk]
      rfl
    rw [hH]
    simp only [VX, Nat.reduceEqDiff, Nat.reduceAdd]
    refine VW_use (impl_starts_b1_w Y hc (g1 := g1) (wall := wall) (eall := eall1) (Nat.le_refl n) hA ⟨?_, ?_, ?_, ?_, ?_, ?_, ?_, ?_⟩ ?_ hw) ?_
    all_goals first | (simp only [h0, h1, h2, h3, h9, h10, h11, h12, h13, hl1, VX, Nat.reduceEqDiff, Nat.reduceAdd]; done) | skip
    clear h0 h1 h2 h3 h9 h10 h11 h12 h13
    rintro ρ2 H2 ⟨come2, ws2, g12, wall2, hS, hw2, hE2, h13, rfl⟩
    simp only [VX, Nat.reduceEqDiff, Nat.reduceAdd]
    refine VW_use (impl_starts_b2_w Y hc hr (Nat.le_refl n) hS hE2 h13 hw2 he1 hsrv) ?_
    rintro ρ3 H3 ⟨ws3, ends3, st3, g13, wall3, g23, eall3, m', hm, hI3, hw3, he3, hE3, _, rfl⟩
    exact ⟨rfl, m', hm, come2, ws3, ends3, st3, g13, wall3, g23, eall3, now, hI3, hw3, he3, hE3, rfl⟩
  have fin : ∀ ρ', StE rule srv room cs n g1 ws.length wall.length g2 ends.length eall.length come ρ' → ρ' 13 = .ptr (n + 3) 0 0 0 → (come < cs.length ∨ 0 < ws.length) → ∀ (Q : VQ), (∀ ρ' H, (∃ m', m' < m ∧ ∃ come ws ends st g1 wall g2 eall now, Y.I m' come ws ends st ∧ Part wall ws ∧ Part eall ends ∧ StE rule srv room cs n g1 ws.length wall.length g2 ends.length eall.length come ρ' ∧ H = List.replicate n VBlk.dead ++ (stH st g1 wall g2 eall ++ [VBlk.row 0 [VI now] 1 true])) → Q .normal ρ' H) →
      VW ⟨true, false⟩ n impl_starts_rest Q ρ' (List.replicate n .dead ++ (stH st g1 wall g2 eall ++ [VBlk.row 0 [VI (now0 cs come)] 1 true])) := fun ρ' hE h13 hg Q hQ =>
    VW_mono (fun x ρ H h => by obtain ⟨rfl, h⟩ := h; exact hQ ρ H h) (rest ρ' hE h13 hg)
  have hlo3 : n ≤ n + 3 := by omega
  by_cases hin : (come : Int) < (cs.length : Int)
  · have hcl' : come < cs.length := by omega
    obtain ⟨x, hx⟩ : ∃ x, cs[come]? = some x := ⟨_, List.getElem?_eq_getElem hcl'⟩
    have e1 := fun H => viaddr_map (f := cV) (t := .op) (H := H) (size := 3) (k := .i64) hx rfl
    have hn0 : now0 cs come = x.t := by unfold now0; rw [if_pos hcl', atC_of hx]
    simp only [impl_starts_b3_is, stH, h0, h1, h2, h3, h9, h10, h11, h12, hin, e1, rd_cV, cV, hlo3, List.cons_append, List.nil_append, List.length_cons, List.length_nil, List.getElem?_cons_zero, VX, Nat.reduceEqDiff, Nat.reduceAdd, vload_pdef, vstore_pdef, viaddr_rdef, vlen_rdef, vfaddr_pdef, vchk_pdef, visnil_rdef, visnil_nil, visnil_cons, vrow_zero, vrow_succ, List.set_cons_zero, List.set_cons_succ, elemOf_one, elemOf_two, vresult, vresAll, vres1, vfill, isAny_sc, isAny_tree, isAny_ref, isAny_agg, isAny_clo, List.take_zero, List.take_succ_cons, List.take_nil, List.drop_zero, List.drop_succ_cons, List.drop_nil, List.append_nil, Nat.reduceLeDiff, Nat.le_refl, vsplice, Nat.reduceLT, Int.toNat_natCast, eq_self, ge_iff_le, Bool.and_eq_true, Nat.reduceSub, vrow_D0, vrow_Dk, set_D0, set_Dk, len_D, List.append_assoc, Nat.le_add_right, take_Dk, take_D0, List.length_replicate]
    have fin' := fin
    rw [hn0] at fin'
    refine fin' _ ⟨?_, ?_, ?_, ?_, ?_, ?_, ?_, ?_⟩ ?_ (.inl hcl') _ ?_
    all_goals first | (simp only [h0, h1, h2, h3, h9, h10, h11, h12, VX, Nat.reduceEqDiff, Nat.reduceAdd]; done) | skip
    rintro ρ' H ⟨m', hm, come', ws', ends', st', g1', wall', g2', eall', now', hI', hw', he', hE', rfl⟩
    simp only [VX, Nat.reduceEqDiff, Nat.reduceAdd]
    exact ⟨m', hm, by rw [take_stH]; exact below_stH, come', ws', ends', st', g1', wall', g2', eall', hI', hw', he', hE'.scrub, take_stH⟩
  · by_cases hws : (0 : Int) < (ws.length : Int)
    · have hn0 : now0 cs come = -1 := by unfold now0; rw [if_neg (by omega)]
      simp only [impl_starts_b3_is, stH, h0, h1, h2, h3, h9, h10, h11, h12, hin, hws, hlo3, List.cons_append, List.nil_append, List.length_cons, List.length_nil, List.getElem?_cons_zero, VX, Nat.reduceEqDiff, Nat.reduceAdd, vload_pdef, vstore_pdef, viaddr_rdef, vlen_rdef, vfaddr_pdef, vchk_pdef, visnil_rdef, visnil_nil, visnil_cons, vrow_zero, vrow_succ, List.set_cons_zero, List.set_cons_succ, elemOf_one, elemOf_two, vresult, vresAll, vres1, vfill, isAny_sc, isAny_tree, isAny_ref, isAny_agg, isAny_clo, List.take_zero, List.take_succ_cons, List.take_nil, List.drop_zero, List.drop_succ_cons, List.drop_nil, List.append_nil, Nat.reduceLeDiff, Nat.le_refl, vsplice, Nat.reduceLT, Int.toNat_natCast, eq_self, ge_iff_le, Bool.and_eq_true, Nat.reduceSub, vrow_D0, vrow_Dk, set_D0, set_Dk, len_D, List.append_assoc, Nat.le_add_right, take_Dk, take_D0, List.length_replicate]
      have fin' := fin
      rw [hn0] at fin'
      refine fin' _ ⟨?_, ?_, ?_, ?_, ?_, ?_, ?_, ?_⟩ ?_ (.inr (by omega)) _ ?_
      all_goals first | (simp only [h0, h1, h2, h3, h9, h10, h11, h12, VX, Nat.reduceEqDiff, Nat.reduceAdd]; done) | skip
      rintro ρ' H ⟨m', hm, come', ws', ends', st', g1', wall', g2', eall', now', hI', hw', he', hE', rfl⟩
      simp only [VX, Nat.reduceEqDiff, Nat.reduceAdd]
      exact ⟨m', hm, by rw [take_stH]; exact below_stH, come', ws', ends', st', g1', wall', g2', eall', hI', hw', he', hE'.scrub, take_stH⟩
    · simp only [impl_starts_b3_is, stH, h0, h1, h2, h3, h9, h10, h11, h12, hin, hws, List.cons_append, List.nil_append, VX, Nat.reduceEqDiff, Nat.reduceAdd, vload_pdef, vstore_pdef, viaddr_rdef, vlen_rdef, vfaddr_pdef, vchk_pdef, visnil_rdef, visnil_nil, visnil_cons, vrow_zero, vrow_succ, List.set_cons_zero, List.set_cons_succ, elemOf_one, elemOf_two, vresult, vresAll, vres1, vfill, isAny_sc, isAny_tree, isAny_ref, isAny_agg, isAny_clo, List.take_zero, List.take_succ_cons, List.take_nil, List.drop_zero, List.drop_succ_cons, List.drop_nil, List.append_nil, Nat.reduceLeDiff, Nat.le_refl, vsplice, Nat.reduceLT, Int.toNat_natCast, eq_self, ge_iff_le, Bool.and_eq_true, Nat.reduceSub, vrow_D0, vrow_Dk, set_D0, set_Dk, len_D, List.append_assoc, Nat.le_add_right, take_Dk, take_D0, List.length_replicate]
      refine ⟨_, rfl, by simp [ownV], ?_, m, come, ws, ends, st, hI, by omega, by omega, rfl⟩
      simp only [rowsOwn, List.all_cons, List.all_nil, Bool.and_true, Bool.and_eq_true]
      exact ⟨ownL_map (f := nV) (fun _ => rfl) _, ownL_map (f := kV) (fun _ => rfl) _, ownL_map (f := nV) (fun _ => rfl) _⟩
end Go.PM

/- Who starts when: with room for all; the reference, walked. -/
namespace Go.PM

theorem fz4 {H : VHeap} {v v' u u' w w' z z' : VV} (h : fz depth H v = some v') (hu : fz depth H u = some u') (hw : fz depth H w = some w') (hz : fz depth H z = some z') : [v, u, w, z].mapM (fz depth H) = some [v', u', w', z'] := by rw [List.mapM_cons, h, fz3 hu hw hz]; rfl
theorem filt_len {p : Nat → Bool} {a b : Nat} (h : a ≤ b) : ((List.range b).filter p).length ≤ ((List.range a).filter p).length + (b - a) := by
  obtain ⟨d, rfl⟩ : ∃ d, b = a + d := ⟨b - a, by omega⟩
  rw [List.range_add, List.filter_append, List.length_append]
  have := List.length_filter_le p ((List.range d).map fun x => a + x)
  simp only [List.length_map, List.length_range] at this
  omega
structure StA (rule srv : Int) (cs : List Cust) (m : Nat) (now : Int) (come : Nat) (ws : List Nat) (ends st : List Int) (t : Int) (come0 : Nat) (ws0 : List Nat) (ends0 : List Int) : Prop where
  imp : ImpI rule srv cs st t come0 ws0 ends0
  gd : come0 < cs.length ∨ 0 < ws0.length
  ms : m = 2 * (cs.length - come0) + ws0.length
  nw : now = nowN cs come0 ws0 ends0
  c0 : come0 ≤ come
  c1 : come ≤ cs.length
  eq : ∀ i, come0 ≤ i → i < come → atC cs i = now
  wsq : ws = (List.range come).filter (below0 st)
  enq : ends = ends0.filter (gtB now)
theorem StA.bnd {rule srv : Int} {cs : List Cust} {m : Nat} {now : Int} {come : Nat} {ws : List Nat} {ends st : List Int} {t : Int} {come0 : Nat} {ws0 : List Nat} {ends0 : List Int} (h : StA rule srv cs m now come ws ends st t come0 ws0 ends0) : ws.length + ends.length ≤ come ∧ ws.length ≤ ws0.length + (come - come0) ∧ ends.length ≤ ends0.length := by
  have h1 := filt_len (p := below0 st) h.c0
  have h2 := wt_come (st := st) h.imp.cle h.imp.past fun i h3 h4 => (h.imp.fut i h3 h4).1
  rw [← h2, ← h.imp.wsq, ← h.wsq] at h1
  have h3 := List.length_filter_le (gtB now) ends0
  rw [← h.enq] at h3
  have h4 := h.imp.room
  have h5 := h.c0
  omega
structure StS (rule srv : Int) (cs : List Cust) (m : Nat) (now : Int) (come : Nat) (ws : List Nat) (ends st : List Int) (st0 : List Int) (w2 e2 : Nat) : Prop where
  ph : Ph4 rule srv cs st0 now come (w2 + e2) st ws ends
  c1 : come ≤ cs.length
  tc : w2 + e2 ≤ come
  run : runT rule srv cs now (100000 - now).toNat st0 = stL rule srv cs
  wle : ws.length ≤ w2
  ms : 2 * (cs.length - come) + w2 < m ∨ (2 * (cs.length - come) + w2 = m ∧ 0 < w2 ∧ (e2 : Int) < srv)
/-- Room for all. -/
def stSys {rule srv room : Int} {cs : List Cust} (hc : custsOk cs) (hr : 0 ≤ rule ∧ rule ≤ 3) (hs : 1 ≤ srv) (hroom : 24 ≤ room) : StSys rule srv room cs where
  I m come ws ends st := m = 2 * (cs.length - come) + ws.length ∧ ∃ t, ImpI rule srv cs st t come ws ends
  A m now come ws ends st := ∃ t come0 ws0 ends0, StA rule srv cs m now come ws ends st t come0 ws0 ends0
  S m now come ws ends st := ∃ st0 w2 e2, StS rule srv cs m now come ws ends st st0 w2 e2
  bI := by
    rintro m come ws ends st ⟨_, t, h⟩
    have := hc.2
    have := h.room
    have := h.cle
    exact ⟨h.cle, h.len, by omega, by omega⟩
  bA := by
    rintro m now come ws ends st ⟨t, come0, ws0, ends0, h⟩
    have := hc.2
    have := h.bnd
    have := h.c1
    exact ⟨h.c1, h.imp.len, by omega, by omega⟩
  bS := by
    rintro m now come ws ends st ⟨st0, w2, e2, h⟩
    have := hc.2
    have := h.tc
    have := h.c1
    have := h.ph.tot
    have h1 := h.ph.way.le hc
    have h2 := h.ph.way.tm
    refine ⟨h.c1, h.ph.way.len, by omega, by omega, fun i hi => ?_, h2.1, by omega⟩
    rw [h.ph.wsq] at hi
    exact (wt_mem.1 hi).1
  start := ⟨_, rfl, -1, ImpI.start hc hs⟩
  toA := by
    rintro m come ws ends st ⟨hm, t, h⟩ hg
    refine ⟨t, come, ws, ends, h, hg, hm, rfl, Nat.le_refl _, h.cle, fun i h1 h2 => by omega, ?_, rfl⟩
    rw [← wt_come (st := st) h.cle h.past fun i h3 h4 => (h.fut i h3 h4).1]
    exact h.wsq
  stepA := by
    rintro m now come ws ends st ⟨t, come0, ws0, ends0, h⟩ hlt hat
    have h24 := hc.2
    have hb := h.bnd
    rw [if_pos (by omega)]
    refine ⟨t, come0, ws0, ends0, h.imp, h.gd, h.ms, h.nw, by have := h.c0; omega, by omega, fun i h1 h2 => ?_, ?_, h.enq⟩
    · rcases Nat.lt_or_ge i come with h3 | h3
      · exact h.eq i h1 h3
      · have : i = come := by omega
        subst this
        exact hat
    · rw [List.range_succ, List.filter_append, ← h.wsq]
      have := (h.imp.fut come h.c0 hlt).2
      simp [below0, this]
  toS := by
    rintro m now come ws ends st ⟨t, come0, ws0, ends0, h⟩ hng
    have hb := h.bnd
    obtain ⟨⟨t1, t2⟩, t3, t4, t5⟩ := h.imp.time hc hs h.gd
    rw [← h.nw] at t1 t2 t3 t4 t5
    have later : ∀ i, come ≤ i → i < cs.length → now < atC cs i := fun i h1 h2 => by
      have h3 := hc.sorted h1 h2
      have h4 := t3 come h.c0 (by omega)
      have h5 : atC cs come ≠ now := fun he => hng ⟨by omega, he⟩
      omega
    have hp := h.imp.ph4 hc t1 t2 h.c0 h.c1 h.eq later
    rw [← h.wsq, ← h.enq] at hp
    refine ⟨st, ws.length, ends.length, hp, h.c1, hb.1, t5, Nat.le_refl _, ?_⟩
    have hms := h.ms
    have hc0 := h.c0
    have hc1 := h.c1
    by_cases he : come0 = come
    · subst he
      rcases t4 with ⟨h1, h2⟩ | ⟨h1, h2⟩
      · exact absurd ⟨h1, h2⟩ hng
      · right
        have hw : ws = ws0 := by
          rw [h.wsq, h.imp.wsq, wt_come (st := st) h.imp.cle h.imp.past fun i h3 h4 => (h.imp.fut i h3 h4).1]
        have hlt : (ends0.filter (gtB now)).length < ends0.length := by
          rcases Nat.lt_or_ge (ends0.filter (gtB now)).length ends0.length with h3 | h3
          · exact h3
          · have h4 := List.length_filter_le (gtB now) ends0
            have h5 := (List.length_filter_eq_length_iff (p := gtB now) (l := ends0)).1 (by omega) now h2
            simp [gtB] at h5
        have := h.imp.es
        rw [hw, h.enq]
        exact ⟨by omega, h1, by omega⟩
    · left
      omega
  stepS := by
    rintro m now come ws ends st ⟨st0, w2, e2, h⟩ hb hne
    obtain ⟨k, h1, _, h2, _, h3⟩ := h.ph.step hc hr hb hne
    refine ⟨k, h1, st0, w2, e2, h3, h.c1, h.tc, h.run, ?_, h.ms⟩
    rw [List.length_eraseIdx_of_lt h2]
    have := h.wle
    omega
  toI := by
    rintro m now come ws ends st ⟨st0, w2, e2, h⟩ hng
    have htot := h.ph.tot
    have hwle := h.wle
    refine ⟨2 * (cs.length - come) + ws.length, ?_, rfl, now, h.ph.done hc h.c1 h.tc ?_ h.run⟩
    · rcases h.ms with h1 | ⟨h1, h2, h3⟩
      · omega
      · by_cases hw : 0 < ws.length
        · have : ¬ (ends.length : Int) < srv := fun he => hng ⟨he, hw⟩
          omega
        · omega
    · by_cases hw : 0 < ws.length
      · exact .inl (by have : ¬ (ends.length : Int) < srv := fun he => hng ⟨he, hw⟩; omega)
      · exact .inr (List.eq_nil_of_length_eq_zero (by omega))

theorem stL_len {rule srv : Int} {cs : List Cust} : (stL rule srv cs).length = cs.length := by
  have h1 : ∀ (n : Nat) (t : Int) (st : List Int), (fill rule srv cs t n st).length = st.length := by
    intro n
    induction n with
    | zero => intro t st; rfl
    | succ n ih =>
      intro t st
      rw [fill]
      split
      · split
        · rfl
        · rw [ih, List.length_set]
      · rfl
  have h2 : ∀ (n : Nat) (t : Int) (st : List Int), (runT rule srv cs t n st).length = st.length := by
    intro n
    induction n with
    | zero => intro t st; rfl
    | succ n ih => intro t st; rw [runT, ih, h1]
  unfold stL
  rw [h2, List.length_replicate]

def stR (vals : List Int) (n : Nat) (r : VV) (L : VHeap) : Prop := r = .ref n 0 0 vals.length vals.length ∧ L[0]? = some (.row 0 (vals.map nV) 1 true)
def stR1 (vals : List Int) (n : Nat) (r : VV) (L : VHeap) : Prop := r = .ref n 0 0 vals.length vals.length ∧ L = [.row 0 (vals.map nV) 1 true]
theorem stR1.to {vals : List Int} {n : Nat} {r : VV} {L : VHeap} (h : stR1 vals n r L) : stR vals n r L := ⟨h.1, by rw [h.2]; rfl⟩
theorem impl_starts_all {rule srv : Int} {cs : List Cust} (hc : custsOk cs) (hr : 0 ≤ rule ∧ rule ≤ 3) (hs : 1 ≤ srv ∧ srv ≤ 8) : FC 87 [VI rule, VI srv, VI 24, custsV cs] (stR (stL rule srv cs)) := by
  intro n
  refine (impl_starts_w (stSys hc hr hs.1 (Int.le_refl 24)) hc hr hs.2 n).mono ?_
  rintro r H ⟨L, h1, h2, h3, m, come, ws, ends, st, ⟨_, t, hI⟩, hcome, hw, h4, h5⟩
  have h6 := hI.done hcome hw
  refine ⟨L, h1, h2, h3, ?_, ?_⟩
  · rw [h4, stL_len]
  · rw [h5, h6]

set_option maxHeartbeats 1000000 in
/-- Those who start at a tick. -/
theorem spec_l05Starts_b1_w {rule srv : Int} {cs : List Cust} (hc : custsOk cs) (hr : 0 ≤ rule ∧ rule ≤ 3) {n lo : Nat} {st : List Int} {now : Int} {ρ : VEnv} (hlo : lo ≤ n) (hW : Way cs st now) (h0 : ρ 0 = VI rule) (h1 : ρ 1 = VI srv) (h2 : ρ 2 = custsV cs) (h7 : ρ 7 = .ref n 0 0 cs.length cs.length) (h9 : ρ 9 = VI now) :
    VW ⟨true, false⟩ lo (.block 4 (.loop spec_l05Starts_b1)) (fun e ρ' H => e = .normal ∧ ∃ st', Way cs st' now ∧ full rule srv cs st' now ∧ fill rule srv cs now cs.length st = st' ∧ ρ' 0 = VI rule ∧ ρ' 1 = VI srv ∧ ρ' 2 = custsV cs ∧ ρ' 7 = .ref n 0 0 cs.length cs.length ∧ ρ' 9 = VI now ∧
      H = List.replicate n .dead ++ [.row 0 (st'.map nV) 1 true]) ρ (List.replicate n .dead ++ [.row 0 (st.map nV) 1 true]) := by
  rw [VW_block]
  refine VW_loop (fun (s : List Int) ρ' H => Way cs s now ∧ fill rule srv cs now cs.length s = fill rule srv cs now cs.length st ∧ ρ' 0 = VI rule ∧ ρ' 1 = VI srv ∧ ρ' 2 = custsV cs ∧ ρ' 7 = .ref n 0 0 cs.length cs.length ∧ ρ' 9 = VI now ∧
    H = List.replicate n .dead ++ [.row 0 (s.map nV) 1 true]) (fun s => unst s) st ⟨hW, rfl, h0, h1, h2, h7, h9, rfl⟩ ?_
  clear h0 h1 h2 h7 h9 ρ hW
  rintro s ρ H ⟨hW, hf, h0, h1, h2, h7, h9, rfl⟩
  have hl := hW.len
  have hle := hW.le hc
  have htm := hW.tm
  have hlen := hc.2
  have r1 : vrow (List.replicate n .dead ++ [.row 0 (s.map nV) 1 true]) n 0 = some (s.map nV, 1, true) := by rw [vrow_D0, vrow_zero]
  have fzs : fz depth (List.replicate n .dead ++ [.row 0 (s.map nV) 1 true]) (.ref n 0 0 cs.length cs.length) = some (numsV s) := by
    have := fz_live (f := nV) (xs := s) (c := cs.length) (fun _ => rfl) r1 (by omega)
    rw [hl] at this
    exact this
  have eB : ∀ lo K, vcallP 101 [custsV cs, .ref n 0 0 cs.length cs.length, VI now] lo (List.replicate n .dead ++ [.row 0 (s.map nV) 1 true]) K = K (VI (bz cs s now)) (List.replicate n .dead ++ [.row 0 (s.map nV) 1 true]) := fun lo K =>
    TC.flat (spec_l05Busy_v cs s now hc hl hle.2) rfl (by simp only [pureL, custsV_pure, nums_pure]; rfl) (fz3 (fz_res (custsV_pure _)) fzs (fz_res rfl)) rfl lo K
  have eN : ∀ lo K, vcallP 102 [VI rule, custsV cs, .ref n 0 0 cs.length cs.length, VI now] lo (List.replicate n .dead ++ [.row 0 (s.map nV) 1 true]) K = K (VI (optV (nxt rule cs s now))) (List.replicate n .dead ++ [.row 0 (s.map nV) 1 true]) := fun lo K =>
    TC.flat (spec_l05Next_v rule cs s now hr hc hl) rfl (by simp only [pureL, custsV_pure, nums_pure]; rfl) (fz4 (fz_res rfl) (fz_res (custsV_pure _)) fzs (fz_res rfl)) rfl lo K
  by_cases q1 : (bz cs s now : Int) < srv
  · cases hn : nxt rule cs s now with
    | none =>
      rw [hn] at eN
      have q2 : optV none < 0 := by decide
      have hfull : full rule srv cs s now := .inr hn
      simp only [spec_l05Starts_b1, h0, h1, h2, h7, h9, eB, eN, q1, q2, VX, Nat.reduceEqDiff, Nat.reduceAdd]
      refine ⟨s, hW, hfull, by rw [← hf, fill_full hfull], ?_⟩
      simp only [h0, h1, h2, h7, h9, VX, Nat.reduceEqDiff, Nat.reduceAdd]
    | some k =>
      rw [hn] at eN
      obtain ⟨m1, m2, m3⟩ := wt_mem.1 (nxt_mem hn)
      have q2 : ¬ optV (some k) < 0 := by simp only [optV]; omega
      have hk0 : (0 : Int) ≤ optV (some k) := by simp only [optV]; omega
      have hkN : optV (some k) < (cs.length : Int) := by simp only [optV]; omega
      have hkt : (optV (some k)).toNat = k := by simp only [optV]; omega
      have hst := vstore_map (f := nV) (xs := s) (x := now) (e := 1) (g := 0) (j := k) (b := n) (lo := lo) r1 (by omega) hlo rfl rfl
      rw [set_D0] at hst
      have hus := unst_set (t := now) (by omega : k < s.length) m2 htm.1
      simp only [spec_l05Starts_b1, h0, h1, h2, h7, h9, eB, eN, q1, q2, hk0, hkN, hkt, hst, VX, Nat.reduceEqDiff, Nat.reduceAdd, vload_pdef, vstore_pdef, viaddr_rdef, vlen_rdef, vfaddr_pdef, vchk_pdef, visnil_rdef, visnil_nil, visnil_cons, vrow_zero, vrow_succ, List.set_cons_zero, List.set_cons_succ, elemOf_one, elemOf_two, vresult, vresAll, vres1, vfill, isAny_sc, isAny_tree, isAny_ref, isAny_agg, isAny_clo, List.take_zero, List.take_succ_cons, List.take_nil, List.drop_zero, List.drop_succ_cons, List.drop_nil, List.append_nil, Nat.reduceLeDiff, Nat.le_refl, vsplice, Nat.reduceLT, Int.toNat_natCast, eq_self, ge_iff_le, Bool.and_eq_true, Nat.reduceSub, vrow_D0, vrow_Dk, set_D0, set_Dk, len_D, List.append_assoc, Nat.le_add_right, take_Dk, take_D0, List.length_replicate]
      refine ⟨s.set k now, by omega, hW.set m1 m2, by rw [fill_step hl htm.1 q1 hn, hf], ?_⟩
      (repeat' apply And.intro) <;> first | rfl | trivial
  · have hfull : full rule srv cs s now := .inl (by omega)
    simp only [spec_l05Starts_b1, h0, h1, h2, h7, h9, eB, q1, VX, Nat.reduceEqDiff, Nat.reduceAdd]
    refine ⟨s, hW, hfull, by rw [← hf, fill_full hfull], ?_⟩
    simp only [h0, h1, h2, h7, h9, VX, Nat.reduceEqDiff, Nat.reduceAdd]

set_option maxHeartbeats 1000000 in
theorem spec_l05Starts_v {rule srv : Int} {cs : List Cust} (hc : custsOk cs) (hr : 0 ≤ rule ∧ rule ≤ 3) : FC 85 [VI rule, VI srv, custsV cs] (stR1 (stL rule srv cs)) := by
  refine FC.walk ⟨true, false⟩ spec_l05Starts_t (Nat.le_of_ble_eq_true rfl) fun n => ?_
  have hlen := hc.2
  have em := fun H => vmake_map (H := H) (f := nV) (x := 0) (z := [.int .i64 0]) (bytes := 8) (n := cs.length) rfl (by omega) (by omega)
  simp only [spec_l05Starts, spec_l05Starts_c, em, VX, Nat.reduceEqDiff, Nat.reduceAdd, vrow_D0, vrow_Dk, set_D0, set_Dk, len_D, List.append_assoc, Nat.le_add_right, take_Dk, take_D0, List.length_replicate, vload_pdef, vstore_pdef, viaddr_rdef, vlen_rdef, vfaddr_pdef, vchk_pdef, visnil_rdef, visnil_nil, visnil_cons, vrow_zero, vrow_succ, List.set_cons_zero, List.set_cons_succ, elemOf_one, elemOf_two, vresult, vresAll, vres1, vfill, isAny_sc, isAny_tree, isAny_ref, isAny_agg, isAny_clo, List.take_zero, List.take_succ_cons, List.take_nil, List.drop_zero, List.drop_succ_cons, List.drop_nil, List.append_nil, Nat.reduceLeDiff, Nat.le_refl, vsplice, Nat.reduceLT, Int.toNat_natCast, eq_self, ge_iff_le, Bool.and_eq_true, Nat.reduceSub]
  refine VW_loop (fun (i : Nat) ρ H => i ≤ cs.length ∧ ρ 0 = VI rule ∧ ρ 1 = VI srv ∧ ρ 2 = custsV cs ∧ ρ 7 = .ref n 0 0 cs.length cs.length ∧ ρ 15 = VI cs.length ∧ ρ 16 = VI i ∧ H = List.replicate n VBlk.dead ++ [.row 0 ((List.replicate i (-1) ++ List.replicate (cs.length - i) 0).map nV) 1 true]) (fun i => cs.length - i) 0 ⟨Nat.zero_le _, rfl, rfl, rfl, rfl, rfl, rfl, rfl⟩ ?_
  rintro i ρ H ⟨hi, h0, h1, h2, h7, h15, h16, rfl⟩
  by_cases hin : (i : Int) < (cs.length : Int)
  · have wi : IntKind.i64.wrap ((i : Int) + 1) = ((i + 1 : Nat) : Int) := wrapN (i + 1) (by omega) (by omega)
    have hge : (0 : Int) ≤ (i : Int) := by omega
    have hst := vstore_map (f := nV) (xs := List.replicate i (-1) ++ List.replicate (cs.length - i) (0 : Int)) (x := -1) (e := 1) (g := 0) (j := i) (b := n) (lo := n) (H := List.replicate n VBlk.dead ++ [.row 0 ((List.replicate i (-1) ++ List.replicate (cs.length - i) (0 : Int)).map nV) 1 true]) (by rw [vrow_D0, vrow_zero]) (by simp; omega) (Nat.le_refl _) rfl rfl
    have hX : (List.replicate i (-1) ++ List.replicate (cs.length - i) (0 : Int)).set i (-1) = List.replicate (i + 1) (-1) ++ List.replicate (cs.length - (i + 1)) 0 := by
      rw [List.set_append_right _ _ (by simp), List.length_replicate, Nat.sub_self, show cs.length - i = (cs.length - (i + 1)) + 1 by omega, List.replicate_succ, List.set_cons_zero, List.replicate_succ', List.append_assoc]
      rfl
    rw [set_D0, hX] at hst
    simp only [spec_l05Starts_b0, h0, h1, h2, h7, h15, h16, hin, hge, wi, hst, VX, Nat.reduceEqDiff, Nat.reduceAdd, vload_pdef, vstore_pdef, viaddr_rdef, vlen_rdef, vfaddr_pdef, vchk_pdef, visnil_rdef, visnil_nil, visnil_cons, vrow_zero, vrow_succ, List.set_cons_zero, List.set_cons_succ, elemOf_one, elemOf_two, vresult, vresAll, vres1, vfill, isAny_sc, isAny_tree, isAny_ref, isAny_agg, isAny_clo, List.take_zero, List.take_succ_cons, List.take_nil, List.drop_zero, List.drop_succ_cons, List.drop_nil, List.append_nil, Nat.reduceLeDiff, Nat.le_refl, vsplice, Nat.reduceLT, Int.toNat_natCast, eq_self, ge_iff_le, Bool.and_eq_true, Nat.reduceSub, vrow_D0, vrow_Dk, set_D0, set_Dk, len_D, List.append_assoc, Nat.le_add_right, take_Dk, take_D0, List.length_replicate]
    exact ⟨i + 1, by omega, by omega, by (repeat' apply And.intro) <;> first | rfl | trivial⟩
  · have hie : i = cs.length := by omega
    subst hie
    simp only [spec_l05Starts_b0, h15, h16, hin, VX, Nat.reduceEqDiff, Nat.reduceAdd]
    rw [Nat.sub_self, List.replicate_zero, List.append_nil]
    refine VW_loop (fun (s : List Int × Int) ρ H => ((Way cs s.1 s.2 ∧ runT rule srv cs s.2 (100000 - s.2).toNat s.1 = stL rule srv cs) ∨ (s.2 = -1 ∧ s.1 = stL rule srv cs)) ∧ ρ 0 = VI rule ∧ ρ 1 = VI srv ∧ ρ 2 = custsV cs ∧ ρ 7 = .ref n 0 0 cs.length cs.length ∧ ρ 9 = VI s.2 ∧ H = List.replicate n VBlk.dead ++ [.row 0 (s.1.map nV) 1 true]) (fun s => if s.2 < 0 then 0 else (100001 - s.2).toNat) (List.replicate cs.length (-1), 0)
      ⟨.inl ⟨?_, rfl⟩, by simp only [h0, VX, Nat.reduceEqDiff, Nat.reduceAdd], by simp only [h1, VX, Nat.reduceEqDiff, Nat.reduceAdd], by simp only [h2, VX, Nat.reduceEqDiff, Nat.reduceAdd], by simp only [h7, VX, Nat.reduceEqDiff, Nat.reduceAdd], rfl, rfl⟩ ?_
    · have hu : unst (List.replicate cs.length (-1)) = cs.length := by simp [unst, List.countP_replicate]
      exact ⟨by simp, fun i hi => by rw [stC_rep hi]; exact Int.le_refl _, fun i hi => by rw [stC_rep hi]; simp, fun i hi => by rw [stC_rep hi, hu]; omega, Int.le_refl _, by rw [hu]; simp only; omega⟩
    clear h0 h1 h2 h7 h15 h16 hin hi ρ
    rintro ⟨s, now⟩ ρ H ⟨hI, h0, h1, h2, h7, h9, rfl⟩
    simp only at hI h9
    rcases hI with ⟨hW, hrun⟩ | ⟨hn1, hs1⟩
    · have htm := hW.tm
      have hle := hW.le hc
      have hge : (0 : Int) ≤ now := htm.1
      simp only [spec_l05Starts_b2, h0, h1, h2, h7, h9, hge, ge_iff_le, VX, Nat.reduceEqDiff, Nat.reduceAdd]
      refine VW_use (spec_l05Starts_b1_w (srv := srv) hc hr (Nat.le_refl n) hW ?_ ?_ ?_ ?_ ?_) ?_
      all_goals first | (simp only [h0, h1, h2, h7, h9, VX, Nat.reduceEqDiff, Nat.reduceAdd]; done) | skip
      clear h0 h1 h2 h7 h9
      rintro ρ1 H1 ⟨st1, hW1, hf1, hfl, h0, h1, h2, h7, h9, rfl⟩
      rw [runT_one hge (by omega), hfl] at hrun
      have hl := hW1.len
      have hle1 := hW1.le hc
      have r1 : vrow (List.replicate n .dead ++ [.row 0 (st1.map nV) 1 true]) n 0 = some (st1.map nV, 1, true) := by rw [vrow_D0, vrow_zero]
      have fzs : fz depth (List.replicate n .dead ++ [.row 0 (st1.map nV) 1 true]) (.ref n 0 0 cs.length cs.length) = some (numsV st1) := by
        have := fz_live (f := nV) (xs := st1) (c := cs.length) (fun _ => rfl) r1 (by omega)
        rw [hl] at this
        exact this
      have eB : ∀ lo K, vcallP 103 [custsV cs, .ref n 0 0 cs.length cs.length, VI now] lo (List.replicate n .dead ++ [.row 0 (st1.map nV) 1 true]) K = K (VI (later cs st1 now)) (List.replicate n .dead ++ [.row 0 (st1.map nV) 1 true]) := fun lo K =>
        TC.flat (spec_l05Later_v cs st1 now hc hl hle1.2) rfl (by simp only [pureL, custsV_pure, nums_pure]; rfl) (fz3 (fz_res (custsV_pure _)) fzs (fz_res rfl)) rfl lo K
      simp only [h0, h1, h2, h7, h9, eB, VX, Nat.reduceEqDiff, Nat.reduceAdd]
      rcases later_next hc hW1 hf1 hrun with ⟨g1, g2⟩ | ⟨g1, g2, g3⟩
      · refine ⟨(st1, -1), ?_, .inr ⟨rfl, g2⟩, by rw [g1]; (repeat' apply And.intro) <;> first | rfl | trivial⟩
        simp only
        rw [if_pos (by decide), if_neg (by omega)]
        omega
      · refine ⟨(st1, later cs st1 now), ?_, .inl ⟨g2, g3⟩, by (repeat' apply And.intro) <;> first | rfl | trivial⟩
        simp only
        rw [if_neg (by omega), if_neg (by omega)]
        omega
    · have hge : ¬ (0 : Int) ≤ now := by omega
      simp only [spec_l05Starts_b2, h7, h9, hge, ge_iff_le, VX, Nat.reduceEqDiff, Nat.reduceAdd]
      refine ⟨_, rfl, by simp [ownV], ?_, ?_, by rw [hs1]⟩
      · simp only [rowsOwn, List.all_cons, List.all_nil, Bool.and_true]
        exact ownL_map (f := nV) (fun _ => rfl) _
      · rw [stL_len]
end Go.PM

/- Starts, leaves and waits: the program and the reference, walked. -/
namespace Go.PM

def stOk (rule srv : Int) (cs : List Cust) : Prop := (0 ≤ rule ∧ rule ≤ 3) ∧ (1 ≤ srv ∧ srv ≤ 8) ∧ custsOk cs
noncomputable instance (rule srv : Int) (cs : List Cust) : Decidable (stOk rule srv cs) := Classical.propDecidable _
noncomputable def stV (rule srv : Int) (cs : List Cust) : List Int := if stOk rule srv cs then stL rule srv cs else []
theorem stV_len (rule srv : Int) (cs : List Cust) : (stV rule srv cs).length ≤ cs.length := by
  unfold stV
  split
  · rw [stL_len]; exact Nat.le_refl _
  · exact Nat.zero_le _
theorem stL_mem {rule srv : Int} {cs : List Cust} : ∀ s ∈ stL rule srv cs, -1 ≤ s ∧ s ≤ 100000 := by
  have h1 : ∀ (n : Nat) (t : Int) (st : List Int), 0 ≤ t ∧ t ≤ 100000 → (∀ s ∈ st, -1 ≤ s ∧ s ≤ 100000) → ∀ s ∈ fill rule srv cs t n st, -1 ≤ s ∧ s ≤ 100000 := by
    intro n
    induction n with
    | zero => intro t st _ h; exact h
    | succ n ih =>
      intro t st ht h
      rw [fill]
      split
      · split
        · exact h
        · refine ih t _ ht fun s hs => ?_
          rcases List.mem_or_eq_of_mem_set hs with hs | rfl
          · exact h s hs
          · omega
      · exact h
  have h2 : ∀ (n : Nat) (t : Int) (st : List Int), 0 ≤ t → t + n ≤ 100000 → (∀ s ∈ st, -1 ≤ s ∧ s ≤ 100000) → ∀ s ∈ runT rule srv cs t n st, -1 ≤ s ∧ s ≤ 100000 := by
    intro n
    induction n with
    | zero => intro t st _ _ h; exact h
    | succ n ih =>
      intro t st ht hn h
      rw [runT]
      exact ih (t + 1) _ (by omega) (by omega) (h1 _ t st ⟨ht, by omega⟩ h)
  exact h2 _ _ _ (Int.le_refl _) (by simp) fun s hs => by
    have := List.eq_of_mem_replicate hs
    omega

theorem impl_pathOk_v (rule srv : Int) (cs : List Cust) (hn : cs.length ≤ 1000000000) : TC 86 [VI rule, VI srv, custsV cs] (.sc (.bool (decide (stOk rule srv cs)))) := by
  refine TC.walk ⟨true, false⟩ impl_pathOk_t rfl (Nat.le_of_ble_eq_true rfl) (by simp only [pureL, custsV_pure]; rfl) rfl ?_
  have eA := impl_AreCustomers_v cs hn
  unfold stOk
  by_cases h1 : 0 ≤ rule ∧ rule ≤ 3
  · by_cases h2 : 1 ≤ srv ∧ srv ≤ 8
    · by_cases h3 : custsOk cs <;> simp only [impl_pathOk, impl_pathOk_c, impl_in_v, eA, h1, h2, h3, VX, Nat.reduceEqDiff, Nat.reduceAdd] <;> exact fz_res rfl
    · simp only [impl_pathOk, impl_pathOk_c, impl_in_v, h1, h2, VX, Nat.reduceEqDiff, Nat.reduceAdd]
      exact fz_res rfl
  · simp only [impl_pathOk, impl_pathOk_c, impl_in_v, h1, VX, Nat.reduceEqDiff, Nat.reduceAdd]
    exact fz_res rfl
theorem spec_l05Fits_v (rule srv : Int) (cs : List Cust) (hn : cs.length ≤ 1000000000) : TC 84 [VI rule, VI srv, custsV cs] (.sc (.bool (decide (stOk rule srv cs)))) := by
  refine TC.walk ⟨true, false⟩ spec_l05Fits_t rfl (Nat.le_of_ble_eq_true rfl) (by simp only [pureL, custsV_pure]; rfl) rfl ?_
  have eA := spec_l05Are_v cs hn
  unfold stOk
  by_cases h1 : 0 ≤ rule ∧ rule ≤ 3
  · by_cases h2 : 1 ≤ srv ∧ srv ≤ 8
    · by_cases h3 : custsOk cs <;> simp only [spec_l05Fits, spec_l05Fits_c, spec_l00In_v, eA, h1, h2, h3, VX, Nat.reduceEqDiff, Nat.reduceAdd] <;> exact fz_res rfl
    · simp only [spec_l05Fits, spec_l05Fits_c, spec_l00In_v, h1, h2, VX, Nat.reduceEqDiff, Nat.reduceAdd]
      exact fz_res rfl
  · simp only [spec_l05Fits, spec_l05Fits_c, spec_l00In_v, h1, VX, Nat.reduceEqDiff, Nat.reduceAdd]
    exact fz_res rfl

/-- At the end all have started. -/
theorem ImpI.all {rule srv : Int} {cs : List Cust} {st : List Int} {t : Int} {come : Nat} {ws : List Nat} {ends : List Int} (h : ImpI rule srv cs st t come ws ends) (hcome : ¬ come < cs.length) (hw : ¬ 0 < ws.length) : ∀ i, i < cs.length → 0 ≤ stC st i := by
  intro i hi
  have hcl := h.cle
  rcases Int.lt_or_le (stC st i) 0 with h1 | h1
  · have h2 : i ∈ wt cs st t := wt_mem.2 ⟨hi, h1, h.past i (by omega)⟩
    rw [← h.wsq, List.eq_nil_of_length_eq_zero (by omega : ws.length = 0)] at h2
    cases h2
  · exact h1
theorem impl_starts_pos {rule srv : Int} {cs : List Cust} (hc : custsOk cs) (hr : 0 ≤ rule ∧ rule ≤ 3) (hs : 1 ≤ srv ∧ srv ≤ 8) : FC 87 [VI rule, VI srv, VI 24, custsV cs] fun n r L => stR (stL rule srv cs) n r L ∧ ∀ s ∈ stL rule srv cs, 0 ≤ s := by
  intro n
  refine (impl_starts_w (stSys hc hr hs.1 (Int.le_refl 24)) hc hr hs.2 n).mono ?_
  rintro r H ⟨L, h1, h2, h3, m, come, ws, ends, st, ⟨_, t, hI⟩, hcome, hw, h4, h5⟩
  have h6 := hI.done hcome hw
  refine ⟨L, h1, h2, h3, ⟨?_, ?_⟩, fun s hs => ?_⟩
  · rw [h4, stL_len]
  · rw [h5, h6]
  · rw [← h6] at hs
    obtain ⟨i, hi⟩ := List.getElem?_of_mem hs
    have hil := (List.getElem?_eq_some_iff.1 hi).1
    have := hI.all hcome hw i (by rw [← hI.len]; exact hil)
    rw [stC_of hi] at this
    exact this

theorem LR.of {vals : List Int} {ok : Bool} {n : Nat} {r : VV} {L : VHeap} (h : stR vals n r L) : LR vals ok n (.tup [r, .sc (.bool ok)]) L := ⟨r, rfl, .inr ⟨0, 0, vals.length, h.1, Nat.le_refl _, h.2⟩⟩
theorem impl_StartsOf_w (rule srv : Int) (cs : List Cust) (hn : cs.length ≤ 1000000000) : FC 51 [VI rule, VI srv, custsV cs] fun n r L => LR (stV rule srv cs) (decide (stOk rule srv cs)) n r L ∧ ∀ s ∈ stV rule srv cs, 0 ≤ s := by
  refine FC.walk ⟨true, false⟩ impl_StartsOf_t (Nat.le_of_ble_eq_true rfl) fun n => ?_
  have eA := impl_pathOk_v rule srv cs hn
  by_cases hok : stOk rule srv cs
  · simp only [impl_StartsOf, impl_StartsOf_c, eA, hok, VX, Nat.reduceEqDiff, Nat.reduceAdd]
    refine FC.callO (impl_starts_pos hok.2.2 hok.1 hok.2.1) rfl (fz4 (fz_res rfl) (fz_res rfl) (fz_res rfl) (fz_res (custsV_pure _))) ?_
    rw [List.length_replicate]
    rintro r L ⟨hR, hpos⟩ ho hL
    have hv : stV rule srv cs = stL rule srv cs := if_pos hok
    simp only [VX, Nat.reduceEqDiff, Nat.reduceAdd]
    refine ⟨L, rfl, by simp only [ownV, ownL, ho, isSc, Bool.and_self], hL, ?_, ?_⟩
    · rw [hv]
      exact LR.of hR
    · rw [hv]
      exact hpos
  · simp only [impl_StartsOf, impl_StartsOf_c, eA, hok, VX, Nat.reduceEqDiff, Nat.reduceAdd]
    have hv : stV rule srv cs = [] := if_neg hok
    refine ⟨[], by simp, rfl, rfl, ⟨_, rfl, .inl ⟨rfl, hv⟩⟩, ?_⟩
    rw [hv]
    intro s hs
    cases hs
theorem FC.mono {f : Nat} {args : List VV} {R R' : Nat → VV → VHeap → Prop} (h : FC f args R) (hR : ∀ n r L, R n r L → R' n r L) : FC f args R' := fun n => (h n).mono fun _ _ ⟨L, h1, h2, h3, h4⟩ => ⟨L, h1, h2, h3, hR _ _ _ h4⟩
theorem impl_StartsOf_v (rule srv : Int) (cs : List Cust) (hn : cs.length ≤ 1000000000) : FC 51 [VI rule, VI srv, custsV cs] (LR (stV rule srv cs) (decide (stOk rule srv cs))) := (impl_StartsOf_w rule srv cs hn).mono fun _ _ _ h => h.1
theorem spec_StartsOf_v (rule srv : Int) (cs : List Cust) (hn : cs.length ≤ 1000000000) : FC 50 [VI rule, VI srv, custsV cs] (LR (stV rule srv cs) (decide (stOk rule srv cs))) := by
  refine FC.walk ⟨true, false⟩ spec_StartsOf_t (Nat.le_of_ble_eq_true rfl) fun n => ?_
  have eA := spec_l05Fits_v rule srv cs hn
  by_cases hok : stOk rule srv cs
  · simp only [spec_StartsOf, spec_StartsOf_c, eA, hok, VX, Nat.reduceEqDiff, Nat.reduceAdd]
    refine FC.callO (spec_l05Starts_v hok.2.2 hok.1) rfl (fz3 (fz_res rfl) (fz_res rfl) (fz_res (custsV_pure _))) ?_
    rw [List.length_replicate]
    rintro r L hR ho hL
    have hv : stV rule srv cs = stL rule srv cs := if_pos hok
    simp only [VX, Nat.reduceEqDiff, Nat.reduceAdd]
    refine ⟨L, rfl, by simp only [ownV, ownL, ho, isSc, Bool.and_self], hL, ?_⟩
    rw [hv]
    exact LR.of hR.to
  · simp only [spec_StartsOf, spec_StartsOf_c, eA, hok, VX, Nat.reduceEqDiff, Nat.reduceAdd]
    have hv : stV rule srv cs = [] := if_neg hok
    exact ⟨[], by simp, rfl, rfl, ⟨_, rfl, .inl ⟨rfl, hv⟩⟩⟩
end Go.PM

/- Leaves and waits: the program and the reference, walked. -/
namespace Go.PM

def mvL (g : Cust → Int) : List Cust → List Int → List Int
  | c :: cs, s :: st => (s + g c) :: mvL g cs st
  | _, _ => []
theorem mvL_len {g : Cust → Int} : ∀ {cs : List Cust} {st : List Int}, st.length = cs.length → (mvL g cs st).length = cs.length
  | [], [], _ => rfl
  | c :: cs, s :: st, h => by
    have h' : st.length = cs.length := by simpa using h
    rw [mvL, List.length_cons, mvL_len h', List.length_cons]
theorem mvL_get {g : Cust → Int} : ∀ {cs : List Cust} {st : List Int} {i : Nat} {c : Cust} {s : Int}, cs[i]? = some c → st[i]? = some s → (mvL g cs st)[i]? = some (s + g c)
  | [], _, _, _, _, h, _ => by simp at h
  | _ :: _, [], _, _, _, _, h => by simp at h
  | c :: cs, s :: st, 0, _, _, h1, h2 => by
    injection h1 with h1
    injection h2 with h2
    subst h1; subst h2
    rfl
  | c :: cs, s :: st, i + 1, _, _, h1, h2 => by
    rw [List.getElem?_cons_succ] at h1 h2
    rw [mvL, List.getElem?_cons_succ]
    exact mvL_get h1 h2
theorem mvL_nil {g : Cust → Int} : ∀ {cs : List Cust}, mvL g cs [] = []
  | [] => rfl
  | _ :: _ => rfl

set_option maxHeartbeats 1000000 in
theorem impl_moved_v (g : Cust → Int) (fc : Nat) (cs : List Cust) (vals : List Int) (hf : vals ≠ [] → ∀ c ∈ cs, TC fc [cV c] (VI (g c)) ∧ -100000 ≤ g c ∧ g c ≤ 100000) (hl : vals.length = cs.length ∨ vals = []) (hv : ∀ s ∈ vals, 0 ≤ s ∧ s ≤ 100000) (hn : vals.length ≤ 1000000) :
    FC 88 [custsV cs, numsV vals, .clo fc []] fun n r L => r = .ref n vals.length 0 vals.length vals.length ∧ L = [.row vals.length ((mvL g cs vals).map nV) 1 true] ∧ (mvL g cs vals).length = vals.length := by
  refine FC.walk ⟨true, false⟩ impl_moved_t (Nat.le_of_ble_eq_true rfl) fun n => ?_
  have hvl : vals.length ≤ cs.length := by rcases hl with h | h <;> simp [h]
  have hml : (mvL g cs vals).length = vals.length := by
    rcases hl with h | h
    · rw [mvL_len h, h]
    · subst h
      rw [mvL_nil]
  have e0 := fun H => vlit_nil (H := H) (lr := false) (z := [.int .i64 0]) rfl
  simp only [impl_moved, impl_moved_c, e0, VX, Nat.reduceEqDiff, Nat.reduceAdd, vrow_D0, vrow_Dk, set_D0, set_Dk, len_D, List.append_assoc, Nat.le_add_right, take_Dk, take_D0, List.length_replicate]
  refine VW_loop (fun (i : Nat) ρ H => i ≤ vals.length ∧ H = List.replicate n VBlk.dead ++ [.row i (((mvL g cs vals).take i).map nV) 1 true] ∧ ρ 0 = custsV cs ∧ ρ 2 = .clo fc [] ∧ ρ 7 = .ref n i 0 i i ∧ ρ 11 = numsV vals ∧ ρ 12 = VI vals.length ∧ ρ 13 = VI i) (fun i => vals.length - i) 0 ⟨Nat.zero_le _, rfl, rfl, rfl, rfl, rfl, rfl, rfl⟩ ?_
  rintro i ρ H ⟨hi, rfl, h0, h2, h7, h11, h12, h13⟩
  by_cases hin : (i : Int) < (vals.length : Int)
  · obtain ⟨s, hs⟩ : ∃ s, vals[i]? = some s := ⟨_, List.getElem?_eq_getElem (by omega)⟩
    obtain ⟨c, hc⟩ : ∃ c, cs[i]? = some c := ⟨_, List.getElem?_eq_getElem (by omega)⟩
    have hb := hv s (List.mem_of_getElem? hs)
    have hgb := hf (fun he => by rw [he] at hs; simp at hs) c (List.mem_of_getElem? hc)
    have e1 := fun H => viaddr_map (f := nV) (t := .op) (H := H) (size := 1) (k := .i64) hs rfl
    have e2 := fun H => viaddr_map (f := cV) (t := .op) (H := H) (size := 3) (k := .i64) hc rfl
    have wi : IntKind.i64.wrap ((i : Int) + 1) = ((i + 1 : Nat) : Int) := wrapN (i + 1) (by omega) (by omega)
    have ws : IntKind.i64.wrap (s + g c) = s + g c := wrap64 (by omega) (by omega)
    have hge : 0 ≤ s := hb.1
    have eF := hgb.1
    have eL : ∀ (v : Int) H, vlit false [.int .i64 0] 1 [(0, VI v)] H = some (.tree [VI v] (.cl 1), H) := fun v H => vlit_one rfl rfl rfl
    have eS : ∀ (v : Int) H, vsource 1 (.tree [VI v] (.cl 1)) H = some [VI v] := fun v H => vsource_one rfl rfl
    have hX : (mvL g cs vals).take i ++ [s + g c] = (mvL g cs vals).take (i + 1) := by
      rw [List.take_add_one, mvL_get hc hs]
      rfl
    have eP := vappend_row (f := nV) (xs := (mvL g cs vals).take i) (x := s + g c) (lo := n) (b := n) (g := i) (n := i) (e := 1) (bytes := 8) (H := List.replicate n VBlk.dead ++ [.row i (((mvL g cs vals).take i).map nV) 1 true]) (by rw [vrow_D0, vrow_zero]) (by simp; omega) (Nat.le_refl _) (by decide) (by decide) (by omega)
    rw [set_D0, hX] at eP
    have ag : rdCells true 3 (cV c) 0 = some (cV c) := rfl
    simp only [impl_moved_b0, h0, h2, h7, h11, h12, h13, hin, e1, e2, ag, eF, ws, wi, hge, ge_iff_le, eL, eS, eP, List.append_nil, VX, Nat.reduceEqDiff, Nat.reduceAdd]
    exact ⟨i + 1, by omega, by omega, rfl, by (repeat' apply And.intro) <;> first | rfl | trivial⟩
  · have hie : i = vals.length := by omega
    subst hie
    simp only [impl_moved_b0, h7, h12, h13, hin, VX, Nat.reduceEqDiff, Nat.reduceAdd]
    refine ⟨_, rfl, by simp [ownV], ?_, ?_⟩
    · simp only [rowsOwn, List.all_cons, List.all_nil, Bool.and_true]
      exact ownL_map (f := nV) (fun _ => rfl) _
    · rw [List.take_of_length_le (by omega)]
      exact ⟨rfl, hml⟩

theorem impl_LeavesOf_1_v (c : Cust) : TC 89 [cV c] (VI c.w) := by
  refine TC.walk ⟨true, false⟩ impl_LeavesOf_1_t rfl (Nat.le_of_ble_eq_true rfl) rfl rfl ?_
  simp only [impl_LeavesOf_1, impl_LeavesOf_1_c, rd_cV, cV, VX, Nat.reduceEqDiff, Nat.reduceAdd]
  exact fz_res rfl
theorem impl_WaitsOf_1_v (c : Cust) (h : 0 ≤ c.t ∧ c.t ≤ 10000) : TC 91 [cV c] (VI (0 - c.t)) := by
  refine TC.walk ⟨true, false⟩ impl_WaitsOf_1_t rfl (Nat.le_of_ble_eq_true rfl) rfl rfl ?_
  have w : IntKind.i64.wrap (0 - c.t) = 0 - c.t := wrap64 (by omega) (by omega)
  simp only [impl_WaitsOf_1, impl_WaitsOf_1_c, rd_cV, cV, w, VX, Nat.reduceEqDiff, Nat.reduceAdd]
  exact fz_res rfl
noncomputable def mvV (g : Cust → Int) (rule srv : Int) (cs : List Cust) : List Int := if stOk rule srv cs then mvL g cs (stL rule srv cs) else []
theorem mvV_is {g : Cust → Int} {rule srv : Int} {cs : List Cust} : mvL g cs (stV rule srv cs) = mvV g rule srv cs := by
  unfold stV mvV
  split
  · rfl
  · exact mvL_nil
theorem mvV_len (g : Cust → Int) (rule srv : Int) (cs : List Cust) : (mvV g rule srv cs).length ≤ cs.length := by
  unfold mvV
  split
  · rw [mvL_len stL_len]; exact Nat.le_refl _
  · exact Nat.zero_le _
/-- Starts, moved: the end of a walk. -/
theorem moved_end {g : Cust → Int} {rule srv : Int} {cs : List Cust} {n : Nat} {L : VHeap} (hL : rowsOwn n L = true) (hml : (mvL g cs (stV rule srv cs)).length = (stV rule srv cs).length) :
    ∃ L', (List.replicate n VBlk.dead ++ L) ++ [.row (stV rule srv cs).length ((mvL g cs (stV rule srv cs)).map nV) 1 true] = List.replicate n VBlk.dead ++ L' ∧ ownV n (.tup [.ref (List.replicate n VBlk.dead ++ L).length (stV rule srv cs).length 0 (stV rule srv cs).length (stV rule srv cs).length, .sc (.bool (decide (stOk rule srv cs)))]) = true ∧ rowsOwn n L' = true ∧
      LR (mvV g rule srv cs) (decide (stOk rule srv cs)) n (.tup [.ref (List.replicate n VBlk.dead ++ L).length (stV rule srv cs).length 0 (stV rule srv cs).length (stV rule srv cs).length, .sc (.bool (decide (stOk rule srv cs)))]) L' := by
  rw [mvV_is] at *
  refine ⟨L ++ [.row (stV rule srv cs).length ((mvV g rule srv cs).map nV) 1 true], by rw [List.append_assoc], by simp [ownV, ownL, isSc], ?_, _, rfl, .inr ⟨L.length, (stV rule srv cs).length, (stV rule srv cs).length, ?_, ?_, ?_⟩⟩
  · unfold rowsOwn at hL ⊢
    rw [List.all_append, hL]
    simp only [List.all_cons, List.all_nil, Bool.and_true, Bool.true_and]
    exact ownL_map (f := nV) (fun _ => rfl) _
  · rw [hml]
    simp
  · rw [hml]
    exact Nat.le_refl _
  · rw [List.getElem?_append_right (Nat.le_refl _), Nat.sub_self]
    rfl
theorem LR.fz {vals : List Int} {ok : Bool} {n : Nat} {v : VV} {L : VHeap} (h : (v = .tree [] .nil ∧ vals = []) ∨ ∃ i g c, v = .ref (n + i) g 0 vals.length c ∧ vals.length ≤ c ∧ L[i]? = some (.row g (vals.map nV) 1 true)) : PM.fz depth (List.replicate n VBlk.dead ++ L) v = some (numsV vals) := by
  rcases h with ⟨rfl, rfl⟩ | ⟨i, g, c, rfl, h2, h3⟩
  · exact fz_niltree
  · exact fz_live (fun _ => rfl) (by rw [vrow_Dk]; exact vrow_some.2 h3) h2
theorem stV_mv {rule srv : Int} {cs : List Cust} (hpos : ∀ s ∈ stV rule srv cs, 0 ≤ s) : ((stV rule srv cs).length = cs.length ∨ stV rule srv cs = []) ∧ (∀ s ∈ stV rule srv cs, 0 ≤ s ∧ s ≤ 100000) ∧ (stV rule srv cs ≠ [] → custsOk cs) ∧ (stV rule srv cs).length ≤ 1000000 := by
  unfold stV at *
  split
  · rename_i hok
    rw [if_pos hok] at hpos
    have := hok.2.2.2
    exact ⟨.inl stL_len, fun s hs => ⟨hpos s hs, (stL_mem s hs).2⟩, fun _ => hok.2.2, by rw [stL_len]; omega⟩
  · exact ⟨.inr rfl, fun s hs => (by cases hs), fun h => absurd rfl h, Nat.zero_le _⟩
theorem custsOk.mem {cs : List Cust} (h : custsOk cs) {c : Cust} (hc : c ∈ cs) : (0 ≤ c.t ∧ c.t ≤ 10000) ∧ (1 ≤ c.w ∧ c.w ≤ 1000) ∧ (0 ≤ c.k ∧ c.k ≤ 9) := by
  obtain ⟨i, hi⟩ := List.getElem?_of_mem hc
  exact h.at hi
theorem impl_LeavesOf_v (rule srv : Int) (cs : List Cust) (hn : cs.length ≤ 1000000000) : FC 53 [VI rule, VI srv, custsV cs] (LR (mvV (·.w) rule srv cs) (decide (stOk rule srv cs))) := by
  refine FC.walk ⟨true, false⟩ impl_LeavesOf_t (Nat.le_of_ble_eq_true rfl) fun n => ?_
  simp only [impl_LeavesOf, impl_LeavesOf_c, VX, Nat.reduceEqDiff, Nat.reduceAdd]
  refine FC.callO (impl_StartsOf_w rule srv cs hn) rfl (fz3 (fz_res rfl) (fz_res rfl) (fz_res (custsV_pure _))) ?_
  rw [List.length_replicate]
  rintro r L ⟨⟨v, rfl, hv⟩, hpos⟩ ho hL
  obtain ⟨k1, k2, k3, k4⟩ := stV_mv hpos
  simp only [List.getElem?_cons_zero, List.getElem?_cons_succ, VX, Nat.reduceEqDiff, Nat.reduceAdd]
  refine FC.callO (impl_moved_v (·.w) 89 cs (stV rule srv cs) (fun hne c hc => ⟨impl_LeavesOf_1_v c, by have := (k3 hne).mem hc; omega, by have := (k3 hne).mem hc; omega⟩) k1 k2 k4) rfl (fz3 (fz_res (custsV_pure _)) (LR.fz (ok := true) hv) (fz_res rfl)) ?_
  rintro r' L' ⟨rfl, rfl, hml⟩ _ _
  simp only [VX, Nat.reduceEqDiff, Nat.reduceAdd]
  exact moved_end hL hml
theorem impl_WaitsOf_v (rule srv : Int) (cs : List Cust) (hn : cs.length ≤ 1000000000) : FC 55 [VI rule, VI srv, custsV cs] (LR (mvV (fun c => 0 - c.t) rule srv cs) (decide (stOk rule srv cs))) := by
  refine FC.walk ⟨true, false⟩ impl_WaitsOf_t (Nat.le_of_ble_eq_true rfl) fun n => ?_
  simp only [impl_WaitsOf, impl_WaitsOf_c, VX, Nat.reduceEqDiff, Nat.reduceAdd]
  refine FC.callO (impl_StartsOf_w rule srv cs hn) rfl (fz3 (fz_res rfl) (fz_res rfl) (fz_res (custsV_pure _))) ?_
  rw [List.length_replicate]
  rintro r L ⟨⟨v, rfl, hv⟩, hpos⟩ ho hL
  obtain ⟨k1, k2, k3, k4⟩ := stV_mv hpos
  simp only [List.getElem?_cons_zero, List.getElem?_cons_succ, VX, Nat.reduceEqDiff, Nat.reduceAdd]
  refine FC.callO (impl_moved_v (fun c => 0 - c.t) 91 cs (stV rule srv cs) (fun hne c hc => ⟨impl_WaitsOf_1_v c ((k3 hne).mem hc).1, by have := (k3 hne).mem hc; omega, by have := (k3 hne).mem hc; omega⟩) k1 k2 k4) rfl (fz3 (fz_res (custsV_pure _)) (LR.fz (ok := true) hv) (fz_res rfl)) ?_
  rintro r' L' ⟨rfl, rfl, hml⟩ _ _
  simp only [VX, Nat.reduceEqDiff, Nat.reduceAdd]
  exact moved_end hL hml

theorem mv_step {g : Cust → Int} {cs : List Cust} {st : List Int} (hl : st.length = cs.length) {i : Nat} {c : Cust} {s : Int} (hc : cs[i]? = some c) (hs : st[i]? = some s) : ((mvL g cs st).take i ++ st.drop i).set i (s + g c) = (mvL g cs st).take (i + 1) ++ st.drop (i + 1) := by
  have hi := (List.getElem?_eq_some_iff.1 hs).1
  have hml := mvL_len (g := g) hl
  rw [List.set_append_right _ _ (by simp; omega), List.length_take, Nat.min_eq_left (by omega), Nat.sub_self, drop_cons hs, List.set_cons_zero, List.take_add_one, mvL_get hc hs, List.append_assoc]
  rfl
theorem mv_at {g : Cust → Int} {cs : List Cust} {st : List Int} (hl : st.length = cs.length) {i : Nat} {s : Int} (hs : st[i]? = some s) : ((mvL g cs st).take i ++ st.drop i)[i]? = some s := by
  have hi := (List.getElem?_eq_some_iff.1 hs).1
  have hml := mvL_len (g := g) hl
  rw [List.getElem?_append_right (by simp; omega), List.length_take, Nat.min_eq_left (by omega), Nat.sub_self, drop_cons hs]
  rfl
theorem spec_LeavesOf_v (rule srv : Int) (cs : List Cust) (hn : cs.length ≤ 1000000000) : FC 52 [VI rule, VI srv, custsV cs] (LR (mvV (·.w) rule srv cs) (decide (stOk rule srv cs))) := by
  refine FC.walk ⟨true, false⟩ spec_LeavesOf_t (Nat.le_of_ble_eq_true rfl) fun n => ?_
  have eA := spec_l05Fits_v rule srv cs hn
  by_cases hok : stOk rule srv cs
  · simp only [spec_LeavesOf, spec_LeavesOf_c, eA, hok, VX, Nat.reduceEqDiff, Nat.reduceAdd]
    refine FC.callO (spec_l05Starts_v hok.2.2 hok.1) rfl (fz3 (fz_res rfl) (fz_res rfl) (fz_res (custsV_pure _))) ?_
    rintro r L hR ho hL
    obtain ⟨rfl, rfl⟩ := hR
    rw [List.length_replicate, stL_len]
    have hlen := hok.2.2.2
    have hv : mvV (·.w) rule srv cs = mvL (·.w) cs (stL rule srv cs) := if_pos hok
    have hl := stL_len (rule := rule) (srv := srv) (cs := cs)
    have hmem := stL_mem (rule := rule) (srv := srv) (cs := cs)
    generalize stL rule srv cs = st at *
    have hml := mvL_len (g := (·.w)) hl
    simp only [VX, Nat.reduceEqDiff, Nat.reduceAdd, vrow_D0, vrow_Dk, set_D0, set_Dk, len_D, List.append_assoc, Nat.le_add_right, take_Dk, take_D0, List.length_replicate, vload_pdef, vstore_pdef, viaddr_rdef, vlen_rdef, vfaddr_pdef, vchk_pdef, visnil_rdef, visnil_nil, visnil_cons, vrow_zero, vrow_succ, List.set_cons_zero, List.set_cons_succ, elemOf_one, elemOf_two, vresult, vresAll, vres1, vfill, isAny_sc, isAny_tree, isAny_ref, isAny_agg, isAny_clo, List.take_zero, List.take_succ_cons, List.take_nil, List.drop_zero, List.drop_succ_cons, List.drop_nil, List.append_nil, Nat.reduceLeDiff, Nat.le_refl, vsplice, Nat.reduceLT, Int.toNat_natCast, eq_self, ge_iff_le, Bool.and_eq_true, Nat.reduceSub]
    refine VW_loop (fun (i : Nat) ρ H => i ≤ cs.length ∧ ρ 2 = custsV cs ∧ ρ 8 = .ref n 0 0 cs.length cs.length ∧ ρ 20 = VI cs.length ∧ ρ 21 = VI i ∧ H = List.replicate n VBlk.dead ++ [.row 0 (((mvL (·.w) cs st).take i ++ st.drop i).map nV) 1 true]) (fun i => cs.length - i) 0 ⟨Nat.zero_le _, rfl, rfl, rfl, rfl, by simp⟩ ?_
    rintro i ρ H ⟨hi, h2, h8, h20, h21, rfl⟩
    by_cases hin : (i : Int) < (cs.length : Int)
    · obtain ⟨s, hs⟩ : ∃ s, st[i]? = some s := ⟨_, List.getElem?_eq_getElem (by omega)⟩
      obtain ⟨c, hc⟩ : ∃ c, cs[i]? = some c := ⟨_, List.getElem?_eq_getElem (by omega)⟩
      have hb := hmem s (List.mem_of_getElem? hs)
      have hcb := hok.2.2.mem (List.mem_of_getElem? hc)
      have e2 := fun H => viaddr_map (f := cV) (t := .op) (H := H) (size := 3) (k := .i64) hc rfl
      have wi : IntKind.i64.wrap ((i : Int) + 1) = ((i + 1 : Nat) : Int) := wrapN (i + 1) (by omega) (by omega)
      have ws : IntKind.i64.wrap (s + c.w) = s + c.w := wrap64 (by omega) (by omega)
      have hge : (0 : Int) ≤ (i : Int) := by omega
      have hXi : (((mvL (·.w) cs st).take i ++ st.drop i).map nV)[i]? = some (VI s) := by rw [List.getElem?_map, mv_at hl hs]; rfl
      have hst := vstore_map (f := nV) (xs := (mvL (·.w) cs st).take i ++ st.drop i) (x := s + c.w) (e := 1) (g := 0) (j := i) (b := n) (lo := n) (H := List.replicate n VBlk.dead ++ [.row 0 (((mvL (·.w) cs st).take i ++ st.drop i).map nV) 1 true]) (by rw [vrow_D0, vrow_zero]) (by simp; omega) (Nat.le_refl _) rfl rfl
      rw [set_D0, mv_step (g := (·.w)) hl hc hs] at hst
      have rds : ∀ v : Int, rdCells false 1 (VI v) 0 = some (VI v) := fun _ => rfl
      simp only [spec_LeavesOf_b0, h2, h8, h20, h21, hin, hge, e2, rd_cV, cV, rds, hXi, ws, wi, hst, VX, Nat.reduceEqDiff, Nat.reduceAdd, vload_pdef, vstore_pdef, viaddr_rdef, vlen_rdef, vfaddr_pdef, vchk_pdef, visnil_rdef, visnil_nil, visnil_cons, vrow_zero, vrow_succ, List.set_cons_zero, List.set_cons_succ, elemOf_one, elemOf_two, vresult, vresAll, vres1, vfill, isAny_sc, isAny_tree, isAny_ref, isAny_agg, isAny_clo, List.take_zero, List.take_succ_cons, List.take_nil, List.drop_zero, List.drop_succ_cons, List.drop_nil, List.append_nil, Nat.reduceLeDiff, Nat.le_refl, vsplice, Nat.reduceLT, Int.toNat_natCast, eq_self, ge_iff_le, Bool.and_eq_true, Nat.reduceSub, vrow_D0, vrow_Dk, set_D0, set_Dk, len_D, List.append_assoc, Nat.le_add_right, take_Dk, take_D0, List.length_replicate]
      exact ⟨i + 1, by omega, by omega, by (repeat' apply And.intro) <;> first | rfl | trivial⟩
    · have hie : i = cs.length := by omega
      subst hie
      simp only [spec_LeavesOf_b0, h8, h20, h21, hin, VX, Nat.reduceEqDiff, Nat.reduceAdd]
      rw [List.take_of_length_le (by omega), List.drop_of_length_le (by omega), List.append_nil, ← hv]
      refine ⟨_, rfl, by simp [ownV, ownL, isSc], ?_, _, rfl, .inr ⟨0, 0, cs.length, by rw [hv, hml]; rfl, by rw [hv, hml]; exact Nat.le_refl _, rfl⟩⟩
      simp only [rowsOwn, List.all_cons, List.all_nil, Bool.and_true]
      exact ownL_map (f := nV) (fun _ => rfl) _
  · simp only [spec_LeavesOf, spec_LeavesOf_c, eA, hok, VX, Nat.reduceEqDiff, Nat.reduceAdd]
    have hv : mvV (·.w) rule srv cs = [] := if_neg hok
    exact ⟨[], by simp, rfl, rfl, ⟨_, rfl, .inl ⟨rfl, hv⟩⟩⟩
theorem spec_l05Waits_v {rule srv : Int} {cs : List Cust} (hc0 : custsOk cs) (hr : 0 ≤ rule ∧ rule ≤ 3) : FC 90 [VI rule, VI srv, custsV cs] (stR1 (mvL (fun c => 0 - c.t) cs (stL rule srv cs))) := by
  refine FC.walk ⟨true, false⟩ spec_l05Waits_t (Nat.le_of_ble_eq_true rfl) fun n => ?_
  simp only [spec_l05Waits, spec_l05Waits_c, VX, Nat.reduceEqDiff, Nat.reduceAdd]
  refine FC.callO (spec_l05Starts_v hc0 hr) rfl (fz3 (fz_res rfl) (fz_res rfl) (fz_res (custsV_pure _))) ?_
  rintro r L hR ho hL
  obtain ⟨rfl, rfl⟩ := hR
  rw [List.length_replicate, stL_len]
  have hlen := hc0.2
  have hl := stL_len (rule := rule) (srv := srv) (cs := cs)
  have hmem := stL_mem (rule := rule) (srv := srv) (cs := cs)
  generalize stL rule srv cs = st at *
  have hml := mvL_len (g := fun c => 0 - c.t) hl
  simp only [VX, Nat.reduceEqDiff, Nat.reduceAdd, vrow_D0, vrow_Dk, set_D0, set_Dk, len_D, List.append_assoc, Nat.le_add_right, take_Dk, take_D0, List.length_replicate, vload_pdef, vstore_pdef, viaddr_rdef, vlen_rdef, vfaddr_pdef, vchk_pdef, visnil_rdef, visnil_nil, visnil_cons, vrow_zero, vrow_succ, List.set_cons_zero, List.set_cons_succ, elemOf_one, elemOf_two, vresult, vresAll, vres1, vfill, isAny_sc, isAny_tree, isAny_ref, isAny_agg, isAny_clo, List.take_zero, List.take_succ_cons, List.take_nil, List.drop_zero, List.drop_succ_cons, List.drop_nil, List.append_nil, Nat.reduceLeDiff, Nat.le_refl, vsplice, Nat.reduceLT, Int.toNat_natCast, eq_self, ge_iff_le, Bool.and_eq_true, Nat.reduceSub]
  refine VW_loop (fun (i : Nat) ρ H => i ≤ cs.length ∧ ρ 2 = custsV cs ∧ ρ 7 = .ref n 0 0 cs.length cs.length ∧ ρ 14 = VI cs.length ∧ ρ 15 = VI i ∧ H = List.replicate n VBlk.dead ++ [.row 0 (((mvL (fun c => 0 - c.t) cs st).take i ++ st.drop i).map nV) 1 true]) (fun i => cs.length - i) 0 ⟨Nat.zero_le _, rfl, rfl, rfl, rfl, by simp⟩ ?_
  rintro i ρ H ⟨hi, h2, h7, h14, h15, rfl⟩
  by_cases hin : (i : Int) < (cs.length : Int)
  · obtain ⟨s, hs⟩ : ∃ s, st[i]? = some s := ⟨_, List.getElem?_eq_getElem (by omega)⟩
    obtain ⟨c, hc⟩ : ∃ c, cs[i]? = some c := ⟨_, List.getElem?_eq_getElem (by omega)⟩
    have hb := hmem s (List.mem_of_getElem? hs)
    have hcb := hc0.mem (List.mem_of_getElem? hc)
    have e2 := fun H => viaddr_map (f := cV) (t := .op) (H := H) (size := 3) (k := .i64) hc rfl
    have wi : IntKind.i64.wrap ((i : Int) + 1) = ((i + 1 : Nat) : Int) := wrapN (i + 1) (by omega) (by omega)
    have ws : IntKind.i64.wrap (s - c.t) = s + (0 - c.t) := by rw [show s - c.t = s + (0 - c.t) by omega]; exact wrap64 (by omega) (by omega)
    have hge : (0 : Int) ≤ (i : Int) := by omega
    have hXi : (((mvL (fun c => 0 - c.t) cs st).take i ++ st.drop i).map nV)[i]? = some (VI s) := by rw [List.getElem?_map, mv_at hl hs]; rfl
    have hst := vstore_map (f := nV) (xs := (mvL (fun c => 0 - c.t) cs st).take i ++ st.drop i) (x := s + (0 - c.t)) (e := 1) (g := 0) (j := i) (b := n) (lo := n) (H := List.replicate n VBlk.dead ++ [.row 0 (((mvL (fun c => 0 - c.t) cs st).take i ++ st.drop i).map nV) 1 true]) (by rw [vrow_D0, vrow_zero]) (by rw [List.length_append, List.length_take, List.length_drop]; omega) (Nat.le_refl _) rfl rfl
    rw [set_D0, mv_step (g := fun c => 0 - c.t) hl hc hs] at hst
    have rds : ∀ v : Int, rdCells false 1 (VI v) 0 = some (VI v) := fun _ => rfl
    simp only [spec_l05Waits_b0, h2, h7, h14, h15, hin, hge, e2, rd_cV, cV, rds, hXi, ws, wi, hst, VX, Nat.reduceEqDiff, Nat.reduceAdd, vload_pdef, vstore_pdef, viaddr_rdef, vlen_rdef, vfaddr_pdef, vchk_pdef, visnil_rdef, visnil_nil, visnil_cons, vrow_zero, vrow_succ, List.set_cons_zero, List.set_cons_succ, elemOf_one, elemOf_two, vresult, vresAll, vres1, vfill, isAny_sc, isAny_tree, isAny_ref, isAny_agg, isAny_clo, List.take_zero, List.take_succ_cons, List.take_nil, List.drop_zero, List.drop_succ_cons, List.drop_nil, List.append_nil, Nat.reduceLeDiff, Nat.le_refl, vsplice, Nat.reduceLT, Int.toNat_natCast, eq_self, ge_iff_le, Bool.and_eq_true, Nat.reduceSub, vrow_D0, vrow_Dk, set_D0, set_Dk, len_D, List.append_assoc, Nat.le_add_right, take_Dk, take_D0, List.length_replicate]
    exact ⟨i + 1, by omega, by omega, by (repeat' apply And.intro) <;> first | rfl | trivial⟩
  · have hie : i = cs.length := by omega
    subst hie
    simp only [spec_l05Waits_b0, h7, h14, h15, hin, VX, Nat.reduceEqDiff, Nat.reduceAdd]
    rw [List.take_of_length_le (by omega), List.drop_of_length_le (by omega), List.append_nil]
    refine ⟨_, rfl, by simp [ownV], ?_, by rw [hml], rfl⟩
    simp only [rowsOwn, List.all_cons, List.all_nil, Bool.and_true]
    exact ownL_map (f := nV) (fun _ => rfl) _
theorem spec_WaitsOf_v (rule srv : Int) (cs : List Cust) (hn : cs.length ≤ 1000000000) : FC 54 [VI rule, VI srv, custsV cs] (LR (mvV (fun c => 0 - c.t) rule srv cs) (decide (stOk rule srv cs))) := by
  refine FC.walk ⟨true, false⟩ spec_WaitsOf_t (Nat.le_of_ble_eq_true rfl) fun n => ?_
  have eA := spec_l05Fits_v rule srv cs hn
  by_cases hok : stOk rule srv cs
  · simp only [spec_WaitsOf, spec_WaitsOf_c, eA, hok, VX, Nat.reduceEqDiff, Nat.reduceAdd]
    refine FC.callO (spec_l05Waits_v hok.2.2 hok.1) rfl (fz3 (fz_res rfl) (fz_res rfl) (fz_res (custsV_pure _))) ?_
    rw [List.length_replicate]
    rintro r L hR ho hL
    have hv : mvV (fun c => 0 - c.t) rule srv cs = mvL (fun c => 0 - c.t) cs (stL rule srv cs) := if_pos hok
    simp only [VX, Nat.reduceEqDiff, Nat.reduceAdd]
    refine ⟨L, rfl, by simp only [ownV, ownL, ho, isSc, Bool.and_self], hL, ?_⟩
    rw [hv]
    exact LR.of hR.to
  · simp only [spec_WaitsOf, spec_WaitsOf_c, eA, hok, VX, Nat.reduceEqDiff, Nat.reduceAdd]
    have hv : mvV (fun c => 0 - c.t) rule srv cs = [] := if_neg hok
    exact ⟨[], by simp, rfl, rfl, ⟨_, rfl, .inl ⟨rfl, hv⟩⟩⟩
end Go.PM
