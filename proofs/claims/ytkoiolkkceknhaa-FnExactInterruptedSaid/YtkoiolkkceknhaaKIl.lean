/- Texts of a claim, in one: part 12. -/
import Derived.Test.YtkoiolkkceknhaaKIk

/- The last come first, with interruptions: the program, walked. -/
set_option linter.unusedSimpArgs false
set_option linter.unusedVariables false
namespace Go.PM

theorem below_irH {n N C g k : Nat} {outs : List Int} {all : List (Nat × Int)} {now : Int} : rowsBelow (n + 5) (List.replicate n VBlk.dead ++ irH n N C outs g all k now) = true := by
  rw [below_D]
  unfold irH
  rw [below_row (below_pureL _ (nums_pureL _)), below_row (below_pureL _ (pure_map (f := pV) fun _ => rfl)), below_row (by simp [belowL, below]), below_row (by simp [belowL, below]), below_row (by simp [belowL, below]), below_nil]
theorem own_irH {n N C g k : Nat} {outs : List Int} {all : List (Nat × Int)} {now : Int} : rowsOwn n (irH n N C outs g all k now) = true := by
  simp only [rowsOwn, irH, List.all_cons, List.all_nil, Bool.and_true, Bool.and_eq_true]
  refine ⟨ownL_map (f := nV) (fun _ => rfl) _, ownL_map (f := pV) (fun _ => rfl) _, ?_, ?_, ?_⟩ <;> simp [ownL, ownV, isSc]

/-- The rows on the way. -/
structure IR (cs : List Cust) (i : Nat) (all : List (Nat × Int)) (k : Nat) (now : Int) (outs : List Int) (most : Int) : Prop where
  le : i ≤ cs.length
  len : outs.length = cs.length
  kle : k ≤ all.length
  ki : k ≤ i
  ok : irOk cs.length 1000000 (all.take k).reverse
  tim : 0 ≤ now ∧ now ≤ 10000
  sum : irSum (all.take k).reverse ≤ most
  mst : 0 ≤ most ∧ most ≤ 1000 * i
  go : irGo (cs.drop i) i (all.take k).reverse now outs = irGo cs 0 [] 0 (List.replicate cs.length 0)

abbrev irC (n : Nat) : VV := .clo 76 [.ptr (n + 3) 0 0 0, .ptr (n + 4) 0 0 0, .ptr (n + 2) 0 0 0]

set_option maxHeartbeats 2000000 in
theorem impl_Interrupted_v (cs : List Cust) (hn : cs.length ≤ 1000000000) : FC 40 [custsV cs] (LR (irV cs) (decide (custsOk cs))) := by
  refine FC.walk ⟨true, false⟩ impl_Interrupted_t (Nat.le_of_ble_eq_true rfl) fun n => ?_
  have eA := impl_AreCustomers_v cs hn
  by_cases hc : custsOk cs
  rotate_left
  · simp only [impl_Interrupted, impl_Interrupted_c, eA, hc, VX, Nat.reduceEqDiff, Nat.reduceAdd]
    refine ⟨[], by simp, rfl, rfl, _, rfl, .inl ⟨rfl, ?_⟩⟩
    unfold irV
    rw [if_neg hc]
  have hlen := hc.2
  have e0 := fun H => vlit_nil (H := H) (lr := false) (z := [.int .i64 0, .int .i64 0]) rfl
  have em := fun H => vmake_map (H := H) (f := nV) (x := 0) (z := [.int .i64 0]) (bytes := 8) (n := cs.length) rfl (by omega) (by omega)
  simp only [impl_Interrupted, impl_Interrupted_c, eA, hc, em, e0, List.length_cons, List.length_nil, List.cons_append, List.nil_append, VX, Nat.reduceEqDiff, Nat.reduceAdd, vload_pdef, vstore_pdef, viaddr_rdef, vlen_rdef, vfaddr_pdef, vchk_pdef, visnil_rdef, visnil_nil, visnil_cons, vrow_zero, vrow_succ, List.set_cons_zero, List.set_cons_succ, elemOf_one, elemOf_two, vresult, vresAll, vres1, vfill, isAny_sc, isAny_tree, isAny_ref, isAny_agg, isAny_clo, List.take_zero, List.take_succ_cons, List.take_nil, List.drop_zero, List.drop_succ_cons, List.drop_nil, List.append_nil, Nat.reduceLeDiff, Nat.le_refl, vsplice, Nat.reduceLT, Int.toNat_natCast, eq_self, ge_iff_le, Bool.and_eq_true, Nat.reduceSub, vrow_D0, vrow_Dk, set_D0, set_Dk, len_D, List.append_assoc, Nat.le_add_right, take_Dk, take_D0, List.length_replicate]
  refine VW_loopT (fun (s : Nat × Nat × List (Nat × Int) × Nat × Int × List Int × Int) ρ H => IR cs s.1 s.2.2.1 s.2.2.2.1 s.2.2.2.2.1 s.2.2.2.2.2.1 s.2.2.2.2.2.2 ∧ H = List.replicate n VBlk.dead ++ irH n cs.length s.2.2.1.length s.2.2.2.2.2.1 s.2.1 s.2.2.1 s.2.2.2.1 s.2.2.2.2.1 ∧
    ρ 4 = .ptr (n + 2) 0 0 0 ∧ ρ 5 = .ptr (n + 3) 0 0 0 ∧ ρ 6 = .ptr (n + 4) 0 0 0 ∧ ρ 7 = irC n ∧ ρ 8 = VI s.2.2.2.2.2.2 ∧ ρ 19 = custsV cs ∧ ρ 20 = VI cs.length ∧ ρ 21 = VI s.1) (fun s => cs.length - s.1) (0, 0, [], 0, 0, List.replicate cs.length 0, 0)
    ⟨⟨Nat.zero_le _, by simp, Nat.le_refl _, Nat.le_refl _, fun p hp => (by cases hp), ⟨Int.le_refl 0, by simp⟩, Int.le_refl 0, ⟨Int.le_refl 0, by simp⟩, rfl⟩, rfl, rfl, rfl, rfl, rfl, rfl, rfl, rfl, rfl⟩ ?_
  rintro ⟨i, g, all, k, now, outs, most⟩ ρ H ⟨hI, rfl, h4, h5, h6, h7, h8, h19, h20, h21⟩
  simp only at hI h8 h21
  by_cases hin : (i : Int) < (cs.length : Int)
  · obtain ⟨x, hx⟩ : ∃ x, cs[i]? = some x := ⟨_, List.getElem?_eq_getElem (by omega)⟩
    have hb := hc.at hx
    have e1 := fun H => viaddr_map (f := cV) (t := .op) (H := H) (size := 3) (k := .i64) hx rfl
    simp only [impl_Interrupted_b0, irH, h4, h5, h6, h7, h8, h19, h20, h21, hin, e1, rd_cV, List.cons_append, List.nil_append, cV, VX, Nat.reduceEqDiff, Nat.reduceAdd, vload_pdef, vstore_pdef, viaddr_rdef, vlen_rdef, vfaddr_pdef, vchk_pdef, visnil_rdef, visnil_nil, visnil_cons, vrow_zero, vrow_succ, List.set_cons_zero, List.set_cons_succ, elemOf_one, elemOf_two, vresult, vresAll, vres1, vfill, isAny_sc, isAny_tree, isAny_ref, isAny_agg, isAny_clo, List.take_zero, List.take_succ_cons, List.take_nil, List.drop_zero, List.drop_succ_cons, List.drop_nil, List.append_nil, Nat.reduceLeDiff, Nat.le_refl, vsplice, Nat.reduceLT, Int.toNat_natCast, eq_self, ge_iff_le, Bool.and_eq_true, Nat.reduceSub, vrow_D0, vrow_Dk, set_D0, set_Dk, len_D, List.append_assoc, Nat.le_add_right, take_Dk, take_D0, List.length_replicate]
    refine vcall_raw rfl ((impl_Interrupted_1_v (n := n) (lo := n) (N := cs.length) (C := all.length) (g := g) (k := k) (K := [.row 0 [.agg [nV x.t, nV x.w, nV x.k]] 3 true]) (outs := outs) (all := all) (now := now) (e := x.t) (Nat.le_refl _) hI.len rfl hI.kle (by have := hI.ki; omega) hI.ok ⟨hI.tim.1, by have := hI.tim; omega⟩ ⟨by omega, by omega⟩).mono ?_)
    rintro r H' ⟨rfl, all1, k1, hC1, hk1, hst, rfl⟩
    have o1 := irRun_ok (e := x.t) (now := now) (out := outs) hI.ok
    have o2 := irRun_now (e := x.t) (now := now) (out := outs) hI.ok
    have o3 := irRun_sum (e := x.t) (now := now) (out := outs) hI.ok
    have o4 := irRun_len (e := x.t) (st := (all.take k).reverse) (now := now) (out := outs)
    have hgo := hI.go
    rw [drop_cons hx, irGo] at hgo
    generalize irRun x.t (all.take k).reverse now outs = R at *
    obtain ⟨st1, now1, outs1⟩ := R
    simp only at o1 o2 o3 o4 hgo hst
    have hkle := hI.kle
    have hki := hI.ki
    obtain ⟨g2, all2, eP, hk2, htk2⟩ := vappend_part (f := pV) (all := all1) (x := (i, x.w)) (lo := n) (b := n + 1) (g := g) (k := k1) (e := 2) (bytes := 16) (H := List.replicate n .dead ++ (irH n cs.length all.length outs1 g all1 k1 (max now1 x.t) ++ [.row 0 [.agg [nV x.t, nV x.w, nV x.k]] 3 true]))
      (by rw [vrow_Dk]; simp only [irH, List.cons_append, vrow_succ, vrow_zero]) (by omega) (Nat.le_succ _) (by decide) (by decide) (by omega)
    rw [hC1] at eP
    simp only [irH, List.cons_append, List.nil_append, set_Dk, List.set_cons_succ, List.set_cons_zero] at eP
    have eL : ∀ (a b : VV) H, vscal a = true → vscal b = true → vlit false [.int .i64 0, .int .i64 0] 1 [(0, .agg [a, b])] H = some (.tree [.agg [a, b]] (.cl 2), H) := fun a b H h1 h2 => vlit_one rfl rfl (by simp [vcells, h1, h2])
    have eL' : ∀ H, vlit false [.int .i64 0, .int .i64 0] 1 [(0, .agg [VI i, nV x.w])] H = some (.tree [.agg [VI i, nV x.w]] (.cl 2), H) := fun H => eL _ _ H rfl rfl
    have eS : ∀ H, vsource 2 (.tree [.agg [VI i, nV x.w]] (.cl 2)) H = some [.agg [VI i, nV x.w]] := fun H => vsource_one rfl rfl
    have wm : IntKind.i64.wrap (most + x.w) = most + x.w := wrap64 (by have := hI.mst; omega) (by have := hI.mst; omega)
    have wi : IntKind.i64.wrap ((i : Int) + 1) = ((i + 1 : Nat) : Int) := wrapN (i + 1) (by omega) (by omega)
    simp only [irH, h4, h5, h6, h7, h8, h19, h20, h21, eL', eS, eP, wm, wi, List.cons_append, List.nil_append, VX, Nat.reduceEqDiff, Nat.reduceAdd, vload_pdef, vstore_pdef, viaddr_rdef, vlen_rdef, vfaddr_pdef, vchk_pdef, visnil_rdef, visnil_nil, visnil_cons, vrow_zero, vrow_succ, List.set_cons_zero, List.set_cons_succ, elemOf_one, elemOf_two, vresult, vresAll, vres1, vfill, isAny_sc, isAny_tree, isAny_ref, isAny_agg, isAny_clo, List.take_zero, List.take_succ_cons, List.take_nil, List.drop_zero, List.drop_succ_cons, List.drop_nil, List.append_nil, Nat.reduceLeDiff, Nat.le_refl, vsplice, Nat.reduceLT, Int.toNat_natCast, eq_self, ge_iff_le, Bool.and_eq_true, Nat.reduceSub, vrow_D0, vrow_Dk, set_D0, set_Dk, len_D, List.append_assoc, Nat.le_add_right, take_Dk, take_D0, List.length_replicate]
    have htkr : (all2.take (k1 + 1)).reverse = (i, x.w) :: st1 := by rw [htk2, List.reverse_append, hst]; rfl
    have htim := hI.tim
    have hmst := hI.mst
    have hsum := hI.sum
    have sp : ∀ j, j < 5 → scrub (n + 5) (.ptr (n + j) 0 0 0) = .ptr (n + j) 0 0 0 := fun j hj => scrub_pure (by simp [below]; omega)
    have sc : scrub (n + 5) (irC n) = irC n := scrub_pure (by simp [below, belowL])
    refine ⟨(i + 1, g2, all2, k1 + 1, max now1 x.t, outs1, most + x.w), by simp only; omega, below_irH (C := all2.length), ⟨by simp only; omega, o4.trans hI.len, hk2, by simp only; omega, ?_, by simp only; omega, ?_, by simp only; omega, ?_⟩, rfl, ?_⟩
    · simp only
      rw [htkr]
      exact .of ⟨by simp only; omega, by simp only; omega, by simp only; omega⟩ o1
    · simp only
      rw [htkr]
      simp only [irSum]
      omega
    · simp only
      rw [htkr]
      exact hgo
    · simp only [scrubE_app, h4, h5, h6, h7, h19, h20, sp, sc, scrub_sc, scrub_of (custsV_pure _), Nat.reduceLT, VX, Nat.reduceEqDiff, Nat.reduceAdd]
  · have hie : i = cs.length := by have := hI.le; omega
    subst hie
    simp only [impl_Interrupted_b0, h20, h21, hin, VX, Nat.reduceEqDiff, Nat.reduceAdd]
    have hdr : irDrain (all.take k).reverse now outs = irList cs := by
      have := hI.go
      rw [List.drop_of_length_le (Nat.le_refl _), irGo] at this
      unfold irList
      rw [← this]
    have hki := hI.ki
    have htim := hI.tim
    have hmst := hI.mst
    have hsum := hI.sum
    refine VW_loop (fun (s : List (Nat × Int) × Nat × Int × List Int) ρ' H => s.2.2.2.length = cs.length ∧ s.1.length = all.length ∧ s.2.1 ≤ all.length ∧ s.2.1 ≤ cs.length ∧ irOk cs.length 1000000 (s.1.take s.2.1).reverse ∧ irDrain (s.1.take s.2.1).reverse s.2.2.1 s.2.2.2 = irList cs ∧ (s.2.1 = 0 ∨ ((0 ≤ s.2.2.1 ∧ s.2.2.1 ≤ 10000) ∧ irSum (s.1.take s.2.1).reverse ≤ most)) ∧
      H = List.replicate n VBlk.dead ++ irH n cs.length all.length s.2.2.2 g s.1 s.2.1 s.2.2.1 ∧ ρ' 4 = .ptr (n + 2) 0 0 0 ∧ ρ' 5 = .ptr (n + 3) 0 0 0 ∧ ρ' 6 = .ptr (n + 4) 0 0 0 ∧ ρ' 7 = irC n ∧ ρ' 8 = VI most) (fun s => s.2.1) (all, k, now, outs)
      ⟨hI.len, rfl, hI.kle, hki, hI.ok, hdr, .inr ⟨htim, hsum⟩, rfl, by simp only [h4, VX, Nat.reduceEqDiff, Nat.reduceAdd], by simp only [h5, VX, Nat.reduceEqDiff, Nat.reduceAdd], by simp only [h6, VX, Nat.reduceEqDiff, Nat.reduceAdd], by simp only [h7, VX, Nat.reduceEqDiff, Nat.reduceAdd], by simp only [h8, VX, Nat.reduceEqDiff, Nat.reduceAdd]⟩ ?_
    clear h4 h5 h6 h7 h8 h19 h20 h21 hdr
    rintro ⟨al, j, nw, os⟩ ρ' H ⟨hN, hC, hj, hjc, hok, hdr, hor, rfl, h4, h5, h6, h7, h8⟩
    simp only at hN hC hj hjc hok hdr hor
    cases j with
    | zero =>
      have hlt : ¬ (0 : Int) < ((0 : Nat) : Int) := by decide
      simp only [impl_Interrupted_b1, irH, h4, h5, h6, h7, h8, hlt, List.cons_append, List.nil_append, VX, Nat.reduceEqDiff, Nat.reduceAdd, vload_pdef, vstore_pdef, viaddr_rdef, vlen_rdef, vfaddr_pdef, vchk_pdef, visnil_rdef, visnil_nil, visnil_cons, vrow_zero, vrow_succ, List.set_cons_zero, List.set_cons_succ, elemOf_one, elemOf_two, vresult, vresAll, vres1, vfill, isAny_sc, isAny_tree, isAny_ref, isAny_agg, isAny_clo, List.take_zero, List.take_succ_cons, List.take_nil, List.drop_zero, List.drop_succ_cons, List.drop_nil, List.append_nil, Nat.reduceLeDiff, Nat.le_refl, vsplice, Nat.reduceLT, Int.toNat_natCast, eq_self, ge_iff_le, Bool.and_eq_true, Nat.reduceSub, vrow_D0, vrow_Dk, set_D0, set_Dk, len_D, List.append_assoc, Nat.le_add_right, take_Dk, take_D0, List.length_replicate]
      refine ⟨irH n cs.length all.length os g al 0 nw, rfl, by simp [ownV, ownL, isSc], own_irH, _, rfl, .inr ⟨0, 0, cs.length, ?_, ?_, ?_⟩⟩
      all_goals have hv : irV cs = irList cs := if_pos hc
      · rw [hv, irList_len]
        rfl
      · rw [hv, irList_len]
        exact Nat.le_refl _
      · rw [hv, ← hdr]
        rfl
    | succ j =>
      have hlt : (0 : Int) < ((j + 1 : Nat) : Int) := by omega
      rcases hor with h0 | ⟨hnw, hsm⟩
      · cases h0
      have we : IntKind.i64.wrap (nw + most) = nw + most := wrap64 (by omega) (by omega)
      simp only [impl_Interrupted_b1, irH, h4, h5, h6, h7, h8, hlt, we, List.cons_append, List.nil_append, VX, Nat.reduceEqDiff, Nat.reduceAdd, vload_pdef, vstore_pdef, viaddr_rdef, vlen_rdef, vfaddr_pdef, vchk_pdef, visnil_rdef, visnil_nil, visnil_cons, vrow_zero, vrow_succ, List.set_cons_zero, List.set_cons_succ, elemOf_one, elemOf_two, vresult, vresAll, vres1, vfill, isAny_sc, isAny_tree, isAny_ref, isAny_agg, isAny_clo, List.take_zero, List.take_succ_cons, List.take_nil, List.drop_zero, List.drop_succ_cons, List.drop_nil, List.append_nil, Nat.reduceLeDiff, Nat.le_refl, vsplice, Nat.reduceLT, Int.toNat_natCast, eq_self, ge_iff_le, Bool.and_eq_true, Nat.reduceSub, vrow_D0, vrow_Dk, set_D0, set_Dk, len_D, List.append_assoc, Nat.le_add_right, take_Dk, take_D0, List.length_replicate]
      refine vcall_raw rfl ((impl_Interrupted_1_v (n := n) (lo := n) (N := cs.length) (C := all.length) (g := g) (k := j + 1) (K := []) (outs := os) (all := al) (now := nw) (e := nw + most) (Nat.le_refl _) hN hC hj (by omega) hok ⟨hnw.1, by omega⟩ ⟨by omega, by omega⟩).mono ?_)
      rintro r H' ⟨rfl, al1, j1, hC1, hj1, hst, rfl⟩
      obtain ⟨q1, q2⟩ := irRun_all (e := nw + most) (now := nw) (out := os) hok (by omega)
      have q3 := irRun_len (e := nw + most) (st := (al.take (j + 1)).reverse) (now := nw) (out := os)
      have q4 := irRun_now (e := nw + most) (now := nw) (out := os) hok
      rw [q1] at hst
      have hj0 : j1 = 0 := by
        have := congrArg List.length hst
        simp only [List.length_reverse, List.length_take, List.length_nil] at this
        omega
      subst hj0
      simp only [irH, h4, h5, h6, h7, h8, List.cons_append, List.nil_append, List.append_nil, VX, Nat.reduceEqDiff, Nat.reduceAdd, vload_pdef, vstore_pdef, viaddr_rdef, vlen_rdef, vfaddr_pdef, vchk_pdef, visnil_rdef, visnil_nil, visnil_cons, vrow_zero, vrow_succ, List.set_cons_zero, List.set_cons_succ, elemOf_one, elemOf_two, vresult, vresAll, vres1, vfill, isAny_sc, isAny_tree, isAny_ref, isAny_agg, isAny_clo, List.take_zero, List.take_succ_cons, List.take_nil, List.drop_zero, List.drop_succ_cons, List.drop_nil, List.append_nil, Nat.reduceLeDiff, Nat.le_refl, vsplice, Nat.reduceLT, Int.toNat_natCast, eq_self, ge_iff_le, Bool.and_eq_true, Nat.reduceSub, vrow_D0, vrow_Dk, set_D0, set_Dk, len_D, List.append_assoc, Nat.le_add_right, take_Dk, take_D0, List.length_replicate]
      refine ⟨(al1, 0, max (irRun (nw + most) (al.take (j + 1)).reverse nw os).2.1 (nw + most), (irRun (nw + most) (al.take (j + 1)).reverse nw os).2.2), by simp only; omega, q3.trans hN, hC1, Nat.zero_le _, Nat.zero_le _, fun p hp => (by cases hp), ?_, .inl rfl, ?_⟩
      · rw [← hdr, ← q2]
        rfl
      · (repeat' apply And.intro) <;> first | rfl | trivial
end Go.PM

/- The last come first, with interruptions: the reference, walked. -/
namespace Go.PM

/-- A block that ends in one way. -/
theorem VW_use {fl : Fl} {lo i : Nat} {P : VEnv → VHeap → Prop} {c : PCode} {Q : VQ} {ρ : VEnv} {H : VHeap} (h : VW fl lo (.block i c) (fun e ρ' H' => e = .normal ∧ P ρ' H') ρ H) (hq : ∀ ρ' H', P ρ' H' → Q .normal ρ' H') : VW fl lo c (onExit i Q) ρ H := by
  rw [VW_block] at h
  refine VW_mono (fun x ρ' H' hx => ?_) h
  cases x with
  | normal => exact hq _ _ hx.2
  | exit j =>
    rw [onExit_exit] at hx ⊢
    by_cases hj : j = i
    · rw [if_pos hj] at hx ⊢
      exact hq _ _ hx.2
    · rw [if_neg hj] at hx
      cases hx.1
  | ret => cases hx.1

abbrev kV (j : Nat) : VV := VI j
/-- The stack of the reference, and what is left of each one's work. -/
structure SCo (i : Nat) (st : List (Nat × Int)) (lefts : List Int) (sall : List Nat) (k : Nat) : Prop where
  kle : k ≤ sall.length
  ids : (sall.take k).reverse = st.map Prod.fst
  len : lefts.length = i
  lf : ∀ p ∈ st, lefts[p.1]? = some p.2
  nd : (st.map Prod.fst).Nodup
theorem SCo.nil {i : Nat} {lefts : List Int} {sall : List Nat} {k : Nat} (h : SCo i [] lefts sall k) : k = 0 := by
  have := congrArg List.length h.ids
  simp only [List.length_reverse, List.length_take, List.map_nil, List.length_nil] at this
  have := h.kle
  omega
theorem SCo.cons {i : Nat} {p : Nat × Int} {st : List (Nat × Int)} {lefts : List Int} {sall : List Nat} {k : Nat} (h : SCo i (p :: st) lefts sall k) : ∃ k', k = k' + 1 ∧ sall[k']? = some p.1 ∧ p.1 < i ∧ lefts[p.1]? = some p.2 ∧ ∀ v, SCo i st (lefts.set p.1 v) sall k' := by
  have hk := h.kle
  have h1 := congrArg List.length h.ids
  simp only [List.length_reverse, List.length_take, List.map_cons, List.length_cons] at h1
  obtain ⟨k', rfl⟩ : ∃ k', k = k' + 1 := ⟨k - 1, by omega⟩
  obtain ⟨q, hq⟩ : ∃ q, sall[k']? = some q := ⟨_, List.getElem?_eq_getElem (by omega)⟩
  have h2 := h.ids
  rw [List.take_add_one, hq, List.map_cons] at h2
  simp only [Option.toList_some, List.reverse_append, List.reverse_cons, List.reverse_nil, List.nil_append, List.cons_append] at h2
  injection h2 with h3 h4
  have hl := h.lf p List.mem_cons_self
  have hi := (List.getElem?_eq_some_iff.1 hl).1
  have hnd := h.nd
  rw [List.map_cons, List.nodup_cons] at hnd
  refine ⟨k', rfl, by rw [hq, h3], by rw [← h.len]; exact hi, hl, fun v => ⟨by omega, h4, by rw [List.length_set]; exact h.len, fun q hq => ?_, hnd.2⟩⟩
  rw [List.getElem?_set_ne fun he => hnd.1 (by rw [he]; exact List.mem_map_of_mem hq)]
  exact h.lf q (List.mem_cons_of_mem _ hq)
/-- Less is left of the work of who is on top. -/
theorem SCo.less {i : Nat} {p : Nat × Int} {st : List (Nat × Int)} {lefts : List Int} {sall : List Nat} {k : Nat} (h : SCo i (p :: st) lefts sall k) (v : Int) : SCo i ((p.1, v) :: st) (lefts.set p.1 v) sall k := by
  have hl := h.lf p List.mem_cons_self
  have hi := (List.getElem?_eq_some_iff.1 hl).1
  have hnd := h.nd
  refine ⟨h.kle, h.ids, by rw [List.length_set]; exact h.len, fun q hq => ?_, hnd⟩
  rw [List.map_cons, List.nodup_cons] at hnd
  rcases List.mem_cons.1 hq with rfl | hq
  · exact List.getElem?_set_self hi
  · rw [List.getElem?_set_ne fun he => hnd.1 (by rw [he]; exact List.mem_map_of_mem hq)]
    exact h.lf q (List.mem_cons_of_mem _ hq)

def srH (n i : Nat) (outs lefts : List Int) (g : Nat) (sall : List Nat) : VHeap :=
  [.row 0 (outs.map nV) 1 true, .row i (lefts.map nV) 1 true, .row g (sall.map kV) 1 true]
/-- The names of the reference's words. -/
structure SEnv (cs : List Cust) (n i g k : Nat) (sall : List Nat) (now : Int) (ρ : VEnv) : Prop where
  r0 : ρ 0 = custsV cs
  r4 : ρ 4 = .ref n 0 0 cs.length cs.length
  r5 : ρ 5 = .ref (n + 1) i 0 i i
  r6 : ρ 6 = .ref (n + 2) g 0 k sall.length
  r7 : ρ 7 = VI now
  r8 : ρ 8 = VI i

theorem st_out {n lo p : Nat} {os : List Int} {v : Int} {B : VHeap} (hlo : lo ≤ n) (hp : p < os.length) : vstore lo 1 (.ptr n 0 p 0) (VI v) (List.replicate n .dead ++ (.row 0 (os.map nV) 1 true :: B)) = some (List.replicate n .dead ++ (.row 0 ((os.set p v).map nV) 1 true :: B)) := by
  have := vstore_map (f := nV) (xs := os) (x := v) (e := 1) (g := 0) (j := p) (b := n) (lo := lo) (H := List.replicate n .dead ++ (.row 0 (os.map nV) 1 true :: B)) (by rw [vrow_D0, vrow_zero]) hp hlo rfl rfl
  rw [set_D0] at this
  exact this
theorem st_left {n lo p i : Nat} {os : List Int} {v : Int} {A : VBlk} {B : VHeap} (hlo : lo ≤ n) (hp : p < os.length) : vstore lo 1 (.ptr (n + 1) i p 0) (VI v) (List.replicate n .dead ++ (A :: .row i (os.map nV) 1 true :: B)) = some (List.replicate n .dead ++ (A :: .row i ((os.set p v).map nV) 1 true :: B)) := by
  have := vstore_map (f := nV) (xs := os) (x := v) (e := 1) (g := i) (j := p) (b := n + 1) (lo := lo) (H := List.replicate n .dead ++ (A :: .row i (os.map nV) 1 true :: B)) (by rw [vrow_Dk]; simp only [vrow_succ, vrow_zero]) hp (by omega) rfl rfl
  rw [set_Dk] at this
  exact this

set_option maxHeartbeats 2000000 in
/-- Whoever is on top works until the next one comes. -/
theorem spec_Interrupted_until {cs : List Cust} {n lo i g k : Nat} {st : List (Nat × Int)} {now : Int} {outs lefts : List Int} {sall : List Nat} {x : Cust} {ρ : VEnv} (hlo : lo ≤ n) (hN : outs.length = cs.length) (hx : cs[i]? = some x) (hlen : cs.length ≤ 24) (hS : SCo i st lefts sall k) (hok : irOk cs.length 1000000 st)
    (hn : 0 ≤ now ∧ now ≤ x.t) (hxt : x.t ≤ 10000) (hk : k ≤ 1000000) (hE : SEnv cs n i g k sall now ρ) :
    VW ⟨true, false⟩ lo (.block 2 (.loop spec_Interrupted_b0)) (fun e ρ' H => e = .normal ∧ ∃ lefts' k', SCo i (irRun x.t st now outs).1 lefts' sall k' ∧ k' ≤ k ∧ SEnv cs n i g k' sall (irRun x.t st now outs).2.1 ρ' ∧ H = List.replicate n .dead ++ srH n i (irRun x.t st now outs).2.2 lefts' g sall) ρ (List.replicate n .dead ++ srH n i outs lefts g sall) := by
  rw [VW_block]
  refine VW_loop (fun (s : List (Nat × Int) × Int × List Int × List Int × Nat) ρ' H => s.2.2.1.length = cs.length ∧ SCo i s.1 s.2.2.2.1 sall s.2.2.2.2 ∧ irOk cs.length 1000000 s.1 ∧ (0 ≤ s.2.1 ∧ s.2.1 ≤ x.t) ∧ s.2.2.2.2 ≤ k ∧ SEnv cs n i g s.2.2.2.2 sall s.2.1 ρ' ∧ irRun x.t s.1 s.2.1 s.2.2.1 = irRun x.t st now outs ∧
    H = List.replicate n .dead ++ srH n i s.2.2.1 s.2.2.2.1 g sall) (fun s => s.2.2.2.2) (st, now, outs, lefts, k) ⟨hN, hS, hok, hn, Nat.le_refl _, hE, rfl, rfl⟩ ?_
  clear hN hS hok hn hE
  rintro ⟨st', nw, os, ls, j⟩ ρ' H ⟨hN, hS, hok, hn, hj, hE, hrun, rfl⟩
  simp only at hN hS hok hn hj hE hrun
  obtain ⟨h0, h4, h5, h6, h7, h8⟩ := hE
  have hi := (List.getElem?_eq_some_iff.1 hx).1
  cases st' with
  | nil =>
    have hj0 := hS.nil
    subst hj0
    have hlt : ¬ (0 : Int) < ((0 : Nat) : Int) := by decide
    simp only [spec_Interrupted_b0, srH, h0, h4, h5, h6, h7, h8, hlt, VX, Nat.reduceEqDiff, Nat.reduceAdd, vload_pdef, vstore_pdef, viaddr_rdef, vlen_rdef, vfaddr_pdef, vchk_pdef, visnil_rdef, visnil_nil, visnil_cons, vrow_zero, vrow_succ, List.set_cons_zero, List.set_cons_succ, elemOf_one, elemOf_two, vresult, vresAll, vres1, vfill, isAny_sc, isAny_tree, isAny_ref, isAny_agg, isAny_clo, List.take_zero, List.take_succ_cons, List.take_nil, List.drop_zero, List.drop_succ_cons, List.drop_nil, List.append_nil, Nat.reduceLeDiff, Nat.le_refl, vsplice, Nat.reduceLT, Int.toNat_natCast, eq_self, ge_iff_le, Bool.and_eq_true, Nat.reduceSub, vrow_D0, vrow_Dk, set_D0, set_Dk, len_D, List.append_assoc, Nat.le_add_right, take_Dk, take_D0, List.length_replicate]
    rw [← hrun]
    exact ⟨ls, 0, hS, hj, ⟨h0, h4, h5, h6, h7, h8⟩, rfl⟩
  | cons p st' =>
    obtain ⟨j', rfl, hsj, hpi, hpl, hS'⟩ := hS.cons
    have hlt : (0 : Int) < ((j' + 1 : Nat) : Int) := by omega
    have hne : ¬ (i : Int) = (cs.length : Int) := by omega
    have hil : (i : Int) < (cs.length : Int) := by omega
    have e1 := fun H => viaddr_map (f := cV) (t := .op) (H := H) (size := 3) (k := .i64) hx rfl
    by_cases hnx : nw < x.t
    · have hap : (sall.map kV)[j']? = some (VI p.1) := by rw [List.getElem?_map, hsj]; rfl
      have hlp : (ls.map nV)[p.1]? = some (VI p.2) := by rw [List.getElem?_map, hpl]; rfl
      have hpp := hok.cons.1
      have hge : (0 : Int) ≤ ((j' : Nat) : Int) := by omega
      have hjk : ((j' : Nat) : Int) < ((j' + 1 : Nat) : Int) := by omega
      have wj : IntKind.i64.wrap (((j' + 1 : Nat) : Int) - 1) = ((j' : Nat) : Int) := wrapN j' (by omega) (by omega)
      have wu : IntKind.i64.wrap (nw + p.2) = nw + p.2 := wrap64 (by omega) (by omega)
      have hp0 : (0 : Int) ≤ (p.1 : Int) := by omega
      have hpi' : (p.1 : Int) < (i : Int) := by omega
      have hpN : (p.1 : Int) < (cs.length : Int) := by omega
      have hll := hS.len
      have eO := fun (v : Int) B => st_out (n := n) (lo := lo) (p := p.1) (os := os) (v := v) (B := B) hlo (by omega)
      have eF := fun (v : Int) A B => st_left (n := n) (lo := lo) (p := p.1) (i := i) (os := ls) (v := v) (A := A) (B := B) hlo (by omega)
      have rds : ∀ v : Int, rdCells false 1 (VI v) 0 = some (VI v) := fun _ => rfl
      by_cases hle : p.2 ≤ x.t - nw
      · have hgt : ¬ x.t < nw + p.2 := by omega
        have eU : ∀ (A B : VBlk) (es : List VV) (C : VHeap), vsub 1 (.ref (n + 2) g 0 (j' + 1) sall.length) none (some (VI (j' : Nat))) none (List.replicate n .dead ++ (A :: B :: .row g es 1 true :: C)) = some (.ref (n + 2) g 0 j' sall.length) := fun A B es C => vsub_ref_to (es := es) (w := true) (by rw [vrow_Dk]; simp only [vrow_succ, vrow_zero]) (by have := hS.kle; omega)
        rw [irRun_pop hnx hle] at hrun
        simp only [spec_Interrupted_b0, srH, h0, h4, h5, h6, h7, h8, hlt, hne, hil, e1, rd_cV, rds, hnx, hap, hlp, hge, hjk, wj, wu, hp0, hpi', hpN, hgt, eO, eF, eU, cV, VX, Nat.reduceEqDiff, Nat.reduceAdd, vload_pdef, vstore_pdef, viaddr_rdef, vlen_rdef, vfaddr_pdef, vchk_pdef, visnil_rdef, visnil_nil, visnil_cons, vrow_zero, vrow_succ, List.set_cons_zero, List.set_cons_succ, elemOf_one, elemOf_two, vresult, vresAll, vres1, vfill, isAny_sc, isAny_tree, isAny_ref, isAny_agg, isAny_clo, List.take_zero, List.take_succ_cons, List.take_nil, List.drop_zero, List.drop_succ_cons, List.drop_nil, List.append_nil, Nat.reduceLeDiff, Nat.le_refl, vsplice, Nat.reduceLT, Int.toNat_natCast, eq_self, ge_iff_le, Bool.and_eq_true, Nat.reduceSub, vrow_D0, vrow_Dk, set_D0, set_Dk, len_D, List.append_assoc, Nat.le_add_right, take_Dk, take_D0, List.length_replicate]
        refine ⟨(st', nw + p.2, os.set p.1 (nw + p.2), ls.set p.1 0, j'), by simp only; omega, by simp [hN], hS' 0, hok.cons.2, by simp only; omega, by simp only; omega, ⟨?_, ?_, ?_, ?_, ?_, ?_⟩, hrun, rfl⟩
        all_goals simp only [h0, h4, h5, h6, h7, h8, VX, Nat.reduceEqDiff, Nat.reduceAdd]
      · have hgt : x.t < nw + p.2 := by omega
        have wd : IntKind.i64.wrap (x.t - nw) = x.t - nw := wrap64 (by omega) (by omega)
        have wl : IntKind.i64.wrap (p.2 - (x.t - nw)) = p.2 - (x.t - nw) := wrap64 (by omega) (by omega)
        rw [irRun_cut hnx hle] at hrun
        simp only [spec_Interrupted_b0, srH, h0, h4, h5, h6, h7, h8, hlt, hne, hil, e1, rd_cV, rds, hnx, hap, hlp, hge, hjk, wj, wu, wd, wl, hp0, hpi', hpN, hgt, eO, eF, cV, VX, Nat.reduceEqDiff, Nat.reduceAdd, vload_pdef, vstore_pdef, viaddr_rdef, vlen_rdef, vfaddr_pdef, vchk_pdef, visnil_rdef, visnil_nil, visnil_cons, vrow_zero, vrow_succ, List.set_cons_zero, List.set_cons_succ, elemOf_one, elemOf_two, vresult, vresAll, vres1, vfill, isAny_sc, isAny_tree, isAny_ref, isAny_agg, isAny_clo, List.take_zero, List.take_succ_cons, List.take_nil, List.drop_zero, List.drop_succ_cons, List.drop_nil, List.append_nil, Nat.reduceLeDiff, Nat.le_refl, vsplice, Nat.reduceLT, Int.toNat_natCast, eq_self, ge_iff_le, Bool.and_eq_true, Nat.reduceSub, vrow_D0, vrow_Dk, set_D0, set_Dk, len_D, List.append_assoc, Nat.le_add_right, take_Dk, take_D0, List.length_replicate]
        rw [← hrun]
        refine ⟨ls.set p.1 (p.2 - (x.t - nw)), j' + 1, hS.less _, hj, ⟨?_, ?_, ?_, ?_, ?_, ?_⟩, rfl⟩
        all_goals simp only [h0, h4, h5, h6, h7, h8, VX, Nat.reduceEqDiff, Nat.reduceAdd]
    · simp only [spec_Interrupted_b0, srH, h0, h4, h5, h6, h7, h8, hlt, hne, hnx, e1, rd_cV, cV, VX, Nat.reduceEqDiff, Nat.reduceAdd, vload_pdef, vstore_pdef, viaddr_rdef, vlen_rdef, vfaddr_pdef, vchk_pdef, visnil_rdef, visnil_nil, visnil_cons, vrow_zero, vrow_succ, List.set_cons_zero, List.set_cons_succ, elemOf_one, elemOf_two, vresult, vresAll, vres1, vfill, isAny_sc, isAny_tree, isAny_ref, isAny_agg, isAny_clo, List.take_zero, List.take_succ_cons, List.take_nil, List.drop_zero, List.drop_succ_cons, List.drop_nil, List.append_nil, Nat.reduceLeDiff, Nat.le_refl, vsplice, Nat.reduceLT, Int.toNat_natCast, eq_self, ge_iff_le, Bool.and_eq_true, Nat.reduceSub, vrow_D0, vrow_Dk, set_D0, set_Dk, len_D, List.append_assoc, Nat.le_add_right, take_Dk, take_D0, List.length_replicate]
      rw [irRun_late hnx] at hrun
      rw [← hrun]
      refine ⟨ls, j' + 1, hS, hj, ⟨?_, ?_, ?_, ?_, ?_, ?_⟩, rfl⟩
      all_goals simp only [h0, h4, h5, h6, h7, h8, VX, Nat.reduceEqDiff, Nat.reduceAdd]

set_option maxHeartbeats 2000000 in
/-- All that are left are served to the end. -/
theorem spec_Interrupted_rest {cs : List Cust} {n lo g k : Nat} {st : List (Nat × Int)} {now : Int} {outs lefts : List Int} {sall : List Nat} {ρ : VEnv} (hlo : lo ≤ n) (hN : outs.length = cs.length) (hlen : cs.length ≤ 24) (hS : SCo cs.length st lefts sall k) (hok : irOk cs.length 1000000 st)
    (hn : 0 ≤ now ∧ now + irSum st ≤ 1000000) (hk : k ≤ 1000000) (hE : SEnv cs n cs.length g k sall now ρ) :
    VW ⟨true, false⟩ lo (.block 2 (.loop spec_Interrupted_b0)) (fun e ρ' H => e = .normal ∧ ∃ lefts' sall' k' now', SEnv cs n cs.length g k' sall' now' ρ' ∧ H = List.replicate n .dead ++ srH n cs.length (irDrain st now outs) lefts' g sall') ρ (List.replicate n .dead ++ srH n cs.length outs lefts g sall) := by
  rw [VW_block]
  refine VW_loop (fun (s : List (Nat × Int) × Int × List Int × List Int × Nat) ρ' H => s.2.2.1.length = cs.length ∧ SCo cs.length s.1 s.2.2.2.1 sall s.2.2.2.2 ∧ irOk cs.length 1000000 s.1 ∧ (0 ≤ s.2.1 ∧ s.2.1 + irSum s.1 ≤ 1000000) ∧ s.2.2.2.2 ≤ k ∧ SEnv cs n cs.length g s.2.2.2.2 sall s.2.1 ρ' ∧ irDrain s.1 s.2.1 s.2.2.1 = irDrain st now outs ∧
    H = List.replicate n .dead ++ srH n cs.length s.2.2.1 s.2.2.2.1 g sall) (fun s => s.2.2.2.2) (st, now, outs, lefts, k) ⟨hN, hS, hok, hn, Nat.le_refl _, hE, rfl, rfl⟩ ?_
  clear hN hS hok hn hE
  rintro ⟨st', nw, os, ls, j⟩ ρ' H ⟨hN, hS, hok, hn, hj, hE, hrun, rfl⟩
  simp only at hN hS hok hn hj hE hrun
  obtain ⟨h0, h4, h5, h6, h7, h8⟩ := hE
  cases st' with
  | nil =>
    have hj0 := hS.nil
    subst hj0
    have hlt : ¬ (0 : Int) < ((0 : Nat) : Int) := by decide
    simp only [spec_Interrupted_b0, srH, h0, h4, h5, h6, h7, h8, hlt, VX, Nat.reduceEqDiff, Nat.reduceAdd, vload_pdef, vstore_pdef, viaddr_rdef, vlen_rdef, vfaddr_pdef, vchk_pdef, visnil_rdef, visnil_nil, visnil_cons, vrow_zero, vrow_succ, List.set_cons_zero, List.set_cons_succ, elemOf_one, elemOf_two, vresult, vresAll, vres1, vfill, isAny_sc, isAny_tree, isAny_ref, isAny_agg, isAny_clo, List.take_zero, List.take_succ_cons, List.take_nil, List.drop_zero, List.drop_succ_cons, List.drop_nil, List.append_nil, Nat.reduceLeDiff, Nat.le_refl, vsplice, Nat.reduceLT, Int.toNat_natCast, eq_self, ge_iff_le, Bool.and_eq_true, Nat.reduceSub, vrow_D0, vrow_Dk, set_D0, set_Dk, len_D, List.append_assoc, Nat.le_add_right, take_Dk, take_D0, List.length_replicate]
    rw [← hrun]
    exact ⟨ls, sall, 0, nw, ⟨h0, h4, h5, h6, h7, h8⟩, rfl⟩
  | cons p st' =>
    obtain ⟨j', rfl, hsj, hpi, hpl, hS'⟩ := hS.cons
    have hlt : (0 : Int) < ((j' + 1 : Nat) : Int) := by omega
    have hap : (sall.map kV)[j']? = some (VI p.1) := by rw [List.getElem?_map, hsj]; rfl
    have hlp : (ls.map nV)[p.1]? = some (VI p.2) := by rw [List.getElem?_map, hpl]; rfl
    have hpp := hok.cons.1
    have hsn := irSum_nonneg hok.cons.2
    simp only [irSum] at hn
    have hge : (0 : Int) ≤ ((j' : Nat) : Int) := by omega
    have hjk : ((j' : Nat) : Int) < ((j' + 1 : Nat) : Int) := by omega
    have wj : IntKind.i64.wrap (((j' + 1 : Nat) : Int) - 1) = ((j' : Nat) : Int) := wrapN j' (by omega) (by omega)
    have wu : IntKind.i64.wrap (nw + p.2) = nw + p.2 := wrap64 (by omega) (by omega)
    have hp0 : (0 : Int) ≤ (p.1 : Int) := by omega
    have hpN : (p.1 : Int) < (cs.length : Int) := by omega
    have hll := hS.len
    have hnl : ¬ (cs.length : Int) < (cs.length : Int) := by omega
    have eO := fun (v : Int) B => st_out (n := n) (lo := lo) (p := p.1) (os := os) (v := v) (B := B) hlo (by omega)
    have eF := fun (v : Int) A B => st_left (n := n) (lo := lo) (p := p.1) (i := cs.length) (os := ls) (v := v) (A := A) (B := B) hlo (by omega)
    have rds : ∀ v : Int, rdCells false 1 (VI v) 0 = some (VI v) := fun _ => rfl
    have eU : ∀ (A B : VBlk) (es : List VV) (C : VHeap), vsub 1 (.ref (n + 2) g 0 (j' + 1) sall.length) none (some (VI (j' : Nat))) none (List.replicate n .dead ++ (A :: B :: .row g es 1 true :: C)) = some (.ref (n + 2) g 0 j' sall.length) := fun A B es C => vsub_ref_to (es := es) (w := true) (by rw [vrow_Dk]; simp only [vrow_succ, vrow_zero]) (by have := hS.kle; omega)
    simp only [spec_Interrupted_b0, srH, h0, h4, h5, h6, h7, h8, hlt, hnl, rd_cV, rds, hap, hlp, hge, hjk, wj, wu, hp0, hpN, eO, eF, eU, eq_self, cV, VX, Nat.reduceEqDiff, Nat.reduceAdd, vload_pdef, vstore_pdef, viaddr_rdef, vlen_rdef, vfaddr_pdef, vchk_pdef, visnil_rdef, visnil_nil, visnil_cons, vrow_zero, vrow_succ, List.set_cons_zero, List.set_cons_succ, elemOf_one, elemOf_two, vresult, vresAll, vres1, vfill, isAny_sc, isAny_tree, isAny_ref, isAny_agg, isAny_clo, List.take_zero, List.take_succ_cons, List.take_nil, List.drop_zero, List.drop_succ_cons, List.drop_nil, List.append_nil, Nat.reduceLeDiff, Nat.le_refl, vsplice, Nat.reduceLT, Int.toNat_natCast, eq_self, ge_iff_le, Bool.and_eq_true, Nat.reduceSub, vrow_D0, vrow_Dk, set_D0, set_Dk, len_D, List.append_assoc, Nat.le_add_right, take_Dk, take_D0, List.length_replicate]
    refine ⟨(st', nw + p.2, os.set p.1 (nw + p.2), ls.set p.1 0, j'), by simp only; omega, by simp [hN], hS' 0, hok.cons.2, by simp only; omega, by simp only; omega, ⟨?_, ?_, ?_, ?_, ?_, ?_⟩, hrun, rfl⟩
    all_goals simp only [h0, h4, h5, h6, h7, h8, VX, Nat.reduceEqDiff, Nat.reduceAdd]

/-- The rows on the way. -/
structure SRo (cs : List Cust) (i : Nat) (st : List (Nat × Int)) (now : Int) (outs lefts : List Int) (sall : List Nat) (k : Nat) : Prop where
  le : i ≤ cs.length
  len : outs.length = cs.length
  sc : SCo i st lefts sall k
  ki : k ≤ i
  ok : irOk cs.length 1000000 st
  bel : ∀ p ∈ st, p.1 < i
  tim : 0 ≤ now ∧ now ≤ 10000
  nxt : ∀ x, cs[i]? = some x → now ≤ x.t
  sum : irSum st ≤ 1000 * i
  go : irGo (cs.drop i) i st now outs = irGo cs 0 [] 0 (List.replicate cs.length 0)

set_option maxHeartbeats 2000000 in
theorem spec_Interrupted_v (cs : List Cust) (hn : cs.length ≤ 1000000000) : FC 39 [custsV cs] (LR (irV cs) (decide (custsOk cs))) := by
  refine FC.walk ⟨true, false⟩ spec_Interrupted_t (Nat.le_of_ble_eq_true rfl) fun n => ?_
  have eA := spec_l05Are_v cs hn
  by_cases hc : custsOk cs
  rotate_left
  · simp only [spec_Interrupted, spec_Interrupted_c, eA, hc, VX, Nat.reduceEqDiff, Nat.reduceAdd]
    refine ⟨[], by simp, rfl, rfl, _, rfl, .inl ⟨rfl, ?_⟩⟩
    unfold irV
    rw [if_neg hc]
  have hlen := hc.2
  have e0 := fun H => vlit_nil (H := H) (lr := false) (z := [.int .i64 0]) rfl
  have em := fun H => vmake_map (H := H) (f := nV) (x := 0) (z := [.int .i64 0]) (bytes := 8) (n := cs.length) rfl (by omega) (by omega)
  simp only [spec_Interrupted, spec_Interrupted_c, eA, hc, em, e0, List.length_cons, List.length_nil, List.cons_append, List.nil_append, VX, Nat.reduceEqDiff, Nat.reduceAdd, vload_pdef, vstore_pdef, viaddr_rdef, vlen_rdef, vfaddr_pdef, vchk_pdef, visnil_rdef, visnil_nil, visnil_cons, vrow_zero, vrow_succ, List.set_cons_zero, List.set_cons_succ, elemOf_one, elemOf_two, vresult, vresAll, vres1, vfill, isAny_sc, isAny_tree, isAny_ref, isAny_agg, isAny_clo, List.take_zero, List.take_succ_cons, List.take_nil, List.drop_zero, List.drop_succ_cons, List.drop_nil, List.append_nil, Nat.reduceLeDiff, Nat.le_refl, vsplice, Nat.reduceLT, Int.toNat_natCast, eq_self, ge_iff_le, Bool.and_eq_true, Nat.reduceSub, vrow_D0, vrow_Dk, set_D0, set_Dk, len_D, List.append_assoc, Nat.le_add_right, take_Dk, take_D0, List.length_replicate]
  refine VW_loop (fun (s : Nat × List (Nat × Int) × Int × List Int × List Int × List Nat × Nat × Nat) ρ H => ρ 0 = custsV cs ∧ ρ 4 = .ref n 0 0 cs.length cs.length ∧ ρ 8 = VI s.1 ∧ ((SRo cs s.1 s.2.1 s.2.2.1 s.2.2.2.1 s.2.2.2.2.1 s.2.2.2.2.2.1 s.2.2.2.2.2.2.1 ∧ H = List.replicate n VBlk.dead ++ srH n s.1 s.2.2.2.1 s.2.2.2.2.1 s.2.2.2.2.2.2.2 s.2.2.2.2.2.1 ∧
      ρ 5 = .ref (n + 1) s.1 0 s.1 s.1 ∧ ρ 6 = .ref (n + 2) s.2.2.2.2.2.2.2 0 s.2.2.2.2.2.2.1 s.2.2.2.2.2.1.length ∧ ρ 7 = VI s.2.2.1) ∨ (s.1 = cs.length + 1 ∧ s.2.2.2.1 = irList cs ∧ H = List.replicate n VBlk.dead ++ srH n cs.length s.2.2.2.1 s.2.2.2.2.1 s.2.2.2.2.2.2.2 s.2.2.2.2.2.1)))
    (fun s => cs.length + 1 - s.1) (0, [], 0, List.replicate cs.length 0, [], [], 0, 0)
    ⟨rfl, rfl, rfl, .inl ⟨⟨Nat.zero_le _, by simp, ⟨Nat.le_refl _, rfl, rfl, fun p hp => (by cases hp), List.nodup_nil⟩, Nat.le_refl _, fun p hp => (by cases hp), fun p hp => (by cases hp), ⟨Int.le_refl 0, by simp⟩, fun x hx => (hc.at hx).1.1, Int.le_refl 0, rfl⟩, rfl, rfl, rfl, rfl⟩⟩ ?_
  rintro ⟨i, st, now, outs, lefts, sall, k, g⟩ ρ H ⟨h0, h4, h8, hI⟩
  simp only at h8 hI
  rcases hI with ⟨hI, rfl, h5, h6, h7⟩ | ⟨rfl, rfl, rfl⟩
  rotate_left
  · have hle : ¬ ((cs.length + 1 : Nat) : Int) ≤ (cs.length : Int) := by omega
    simp only [spec_Interrupted_b1, h0, h4, h8, hle, VX, Nat.reduceEqDiff, Nat.reduceAdd]
    have hv : irV cs = irList cs := if_pos hc
    refine ⟨_, rfl, by simp [ownV, ownL, isSc], ?_, _, rfl, .inr ⟨0, 0, cs.length, ?_, ?_, ?_⟩⟩
    · simp only [rowsOwn, srH, List.all_cons, List.all_nil, Bool.and_true, Bool.and_eq_true]
      exact ⟨ownL_map (f := nV) (fun _ => rfl) _, ownL_map (f := nV) (fun _ => rfl) _, ownL_map (f := kV) (fun _ => rfl) _⟩
    · rw [hv, irList_len]
      rfl
    · rw [hv, irList_len]
      exact Nat.le_refl _
    · rw [hv]
      rfl
  have hle : (i : Int) ≤ (cs.length : Int) := by have := hI.le; omega
  have hki := hI.ki
  have htim := hI.tim
  have wi : IntKind.i64.wrap ((i : Int) + 1) = ((i + 1 : Nat) : Int) := wrapN (i + 1) (by omega) (by omega)
  simp only [spec_Interrupted_b1, h0, h8, hle, VX, Nat.reduceEqDiff, Nat.reduceAdd]
  by_cases hin : (i : Int) < (cs.length : Int)
  · obtain ⟨x, hx⟩ : ∃ x, cs[i]? = some x := ⟨_, List.getElem?_eq_getElem (by omega)⟩
    have hb := hc.at hx
    have e1 := fun H => viaddr_map (f := cV) (t := .op) (H := H) (size := 3) (k := .i64) hx rfl
    have h9 := hI.nxt x hx
    refine VW_use (spec_Interrupted_until (g := g) (k := k) (st := st) (now := now) (outs := outs) (lefts := lefts) (sall := sall) (Nat.le_refl n) hI.len hx hlen hI.sc hI.ok ⟨htim.1, h9⟩ hb.1.2 (by omega) ⟨by simp only [h0, VX, Nat.reduceEqDiff, Nat.reduceAdd], by simp only [h4, VX, Nat.reduceEqDiff, Nat.reduceAdd], by simp only [h5, VX, Nat.reduceEqDiff, Nat.reduceAdd], by simp only [h6, VX, Nat.reduceEqDiff, Nat.reduceAdd], by simp only [h7, VX, Nat.reduceEqDiff, Nat.reduceAdd], by simp only [h8, VX, Nat.reduceEqDiff, Nat.reduceAdd]⟩) ?_
    rintro ρ' H' ⟨lefts1, k1, hS1, hk1, ⟨g0, g4, g5, g6, g7, g8⟩, rfl⟩
    have o1 := irRun_ok (e := x.t) (now := now) (out := outs) hI.ok
    have o2 := irRun_now (e := x.t) (now := now) (out := outs) hI.ok
    have o3 := irRun_sum (e := x.t) (now := now) (out := outs) hI.ok
    have o4 := irRun_len (e := x.t) (st := st) (now := now) (out := outs)
    have o5 := irRun_ids (e := x.t) (st := st) (now := now) (out := outs)
    have hgo := hI.go
    rw [drop_cons hx, irGo] at hgo
    generalize irRun x.t st now outs = R at *
    obtain ⟨st1, now1, outs1⟩ := R
    simp only at o1 o2 o3 o4 o5 hgo hS1 g7
    have hbel : ∀ p ∈ st1, p.1 < i := fun p hp => by
      have h1 := o5.subset (List.mem_map_of_mem (f := Prod.fst) hp)
      obtain ⟨q, hq, he⟩ := List.mem_map.1 h1
      rw [← he]
      exact hI.bel q hq
    have eL : ∀ (a : Int) H, vlit false [.int .i64 0] 1 [(0, VI a)] H = some (.tree [VI a] (.cl 1), H) := fun a H => vlit_one rfl rfl rfl
    have eS : ∀ (a : Int) H, vsource 1 (.tree [VI a] (.cl 1)) H = some [VI a] := fun a H => vsource_one rfl rfl
    have eP : ∀ A B, vappend n 1 8 (.ref (n + 1) i 0 i i) [nV x.w] (List.replicate n .dead ++ (A :: .row i (lefts1.map nV) 1 true :: B)) = some (.ref (n + 1) (i + 1) 0 (i + 1) (i + 1), List.replicate n .dead ++ (A :: .row (i + 1) ((lefts1 ++ [x.w]).map nV) 1 true :: B)) := fun A B => by
      rw [vappend_row (f := nV) (xs := lefts1) (by rw [vrow_Dk]; simp only [vrow_succ, vrow_zero]) hS1.len.symm (Nat.le_add_right n 1) (by decide) (by decide) (by omega), set_Dk]
      rfl
    obtain ⟨g2, sall2, eQ, hk2, htk2⟩ := vappend_part (f := kV) (all := sall) (x := i) (lo := n) (b := n + 2) (g := g) (k := k1) (e := 1) (bytes := 8) (H := List.replicate n .dead ++ [.row 0 (outs1.map nV) 1 true, .row (i + 1) ((lefts1 ++ [x.w]).map nV) 1 true, .row g (sall.map kV) 1 true])
      (by rw [vrow_Dk]; simp only [vrow_succ, vrow_zero]) hS1.kle (by omega) (by decide) (by decide) (by omega)
    simp only [set_Dk, List.set_cons_succ, List.set_cons_zero] at eQ
    simp only [srH, g0, g4, g5, g6, g7, g8, hin, e1, rd_cV, wi, eL, eS, eP, eQ, cV, VX, Nat.reduceEqDiff, Nat.reduceAdd, vload_pdef, vstore_pdef, viaddr_rdef, vlen_rdef, vfaddr_pdef, vchk_pdef, visnil_rdef, visnil_nil, visnil_cons, vrow_zero, vrow_succ, List.set_cons_zero, List.set_cons_succ, elemOf_one, elemOf_two, vresult, vresAll, vres1, vfill, isAny_sc, isAny_tree, isAny_ref, isAny_agg, isAny_clo, List.take_zero, List.take_succ_cons, List.take_nil, List.drop_zero, List.drop_succ_cons, List.drop_nil, List.append_nil, Nat.reduceLeDiff, Nat.le_refl, vsplice, Nat.reduceLT, Int.toNat_natCast, eq_self, ge_iff_le, Bool.and_eq_true, Nat.reduceSub, vrow_D0, vrow_Dk, set_D0, set_Dk, len_D, List.append_assoc, Nat.le_add_right, take_Dk, take_D0, List.length_replicate]
    have hi := (List.getElem?_eq_some_iff.1 hx).1
    refine ⟨(i + 1, (i, x.w) :: st1, x.t, outs1, lefts1 ++ [x.w], sall2, k1 + 1, g2), by simp only; omega, rfl, .inl ⟨⟨by simp only; omega, o4.trans hI.len, ⟨hk2, ?_, by simp [hS1.len], ?_, ?_⟩, by simp only; omega, ?_, ?_, by simp only; omega, ?_, ?_, ?_⟩, rfl, rfl, rfl, rfl⟩⟩
    · simp only
      rw [htk2, List.reverse_append, hS1.ids]
      rfl
    · intro p hp
      simp only
      rcases List.mem_cons.1 hp with rfl | hp
      · rw [List.getElem?_append_right (by rw [hS1.len]; exact Nat.le_refl _), hS1.len, Nat.sub_self]
        rfl
      · rw [List.getElem?_append_left (by rw [hS1.len]; exact hbel p hp)]
        exact hS1.lf p hp
    · simp only
      rw [List.map_cons, List.nodup_cons]
      refine ⟨fun hm => ?_, hS1.nd⟩
      obtain ⟨q, hq, he⟩ := List.mem_map.1 hm
      have := hbel q hq
      simp only at he
      omega
    · exact .of ⟨by simp only; omega, by simp only; omega, by simp only; omega⟩ o1
    · intro p hp
      simp only
      rcases List.mem_cons.1 hp with rfl | hp
      · simp only; omega
      · have := hbel p hp
        omega
    · intro y hy
      simp only
      exact (hc.1 (i + 1) y hy).2 x (by omega) (by simpa using hx)
    · have := hI.sum
      simp only [irSum]
      omega
    · simp only
      rw [show max now1 x.t = x.t by omega] at hgo
      exact hgo
  · have hie : i = cs.length := by omega
    subst hie
    have hsum := hI.sum
    have hdr : irDrain st now outs = irList cs := by
      have := hI.go
      rw [List.drop_of_length_le (Nat.le_refl _), irGo] at this
      unfold irList
      rw [← this]
    refine VW_use (spec_Interrupted_rest (g := g) (k := k) (st := st) (now := now) (outs := outs) (lefts := lefts) (sall := sall) (Nat.le_refl n) hI.len hlen hI.sc hI.ok ⟨htim.1, by omega⟩ (by omega) ⟨by simp only [h0, VX, Nat.reduceEqDiff, Nat.reduceAdd], by simp only [h4, VX, Nat.reduceEqDiff, Nat.reduceAdd], by simp only [h5, VX, Nat.reduceEqDiff, Nat.reduceAdd], by simp only [h6, VX, Nat.reduceEqDiff, Nat.reduceAdd], by simp only [h7, VX, Nat.reduceEqDiff, Nat.reduceAdd], by simp only [h8, VX, Nat.reduceEqDiff, Nat.reduceAdd]⟩) ?_
    rintro ρ' H' ⟨lefts1, sall1, k1, now1, ⟨g0, g4, g5, g6, g7, g8⟩, rfl⟩
    simp only [srH, g0, g4, g5, g6, g7, g8, hin, wi, VX, Nat.reduceEqDiff, Nat.reduceAdd, vload_pdef, vstore_pdef, viaddr_rdef, vlen_rdef, vfaddr_pdef, vchk_pdef, visnil_rdef, visnil_nil, visnil_cons, vrow_zero, vrow_succ, List.set_cons_zero, List.set_cons_succ, elemOf_one, elemOf_two, vresult, vresAll, vres1, vfill, isAny_sc, isAny_tree, isAny_ref, isAny_agg, isAny_clo, List.take_zero, List.take_succ_cons, List.take_nil, List.drop_zero, List.drop_succ_cons, List.drop_nil, List.append_nil, Nat.reduceLeDiff, Nat.le_refl, vsplice, Nat.reduceLT, Int.toNat_natCast, eq_self, ge_iff_le, Bool.and_eq_true, Nat.reduceSub, vrow_D0, vrow_Dk, set_D0, set_Dk, len_D, List.append_assoc, Nat.le_add_right, take_Dk, take_D0, List.length_replicate]
    exact ⟨(cs.length + 1, [], 0, irDrain st now outs, lefts1, sall1, 0, g), by simp only; omega, rfl, .inr ⟨rfl, hdr, rfl⟩⟩
end Go.PM
