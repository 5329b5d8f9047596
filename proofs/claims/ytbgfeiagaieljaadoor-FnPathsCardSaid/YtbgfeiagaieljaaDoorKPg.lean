/- Texts of a claim, in one: part 7. -/
import Derived.KernelRfl
import Derived.Test.YtbgfeiagaieljaaDoorKPf

/- Customers that are right: the program's word and the reference's. -/
set_option linter.unusedSimpArgs false
set_option linter.unusedVariables false
namespace Go.PM
theorem impl_in_v (x a b : Int) : TC 20 [VI x, VI a, VI b] (.sc (.bool (decide (a ≤ x ∧ x ≤ b)))) := by
  refine TC.walk ⟨true, false⟩ impl_in_t rfl (Nat.le_of_ble_eq_true rfl) rfl rfl ?_
  by_cases h1 : a ≤ x <;> by_cases h2 : x ≤ b <;> simp only [impl_in, impl_in_c, h1, h2, VX, Nat.reduceEqDiff, Nat.reduceAdd] <;> exact fz_res rfl
theorem custAt_prev {cs : List Cust} {i : Nat} {c : Cust} (hc : custOk c) (h : ∀ p, cs[i]? = some p → p.t ≤ c.t) : custAt cs (i + 1) c := ⟨hc, fun p _ hp => h p (by simpa using hp)⟩
set_option maxHeartbeats 2000000 in
theorem impl_AreCustomers_v (cs : List Cust) (hn : cs.length ≤ 1000000000) : TC 10 [custsV cs] (.sc (.bool (decide (custsOk cs)))) := by
  refine TC.walk ⟨true, false⟩ impl_AreCustomers_t rfl (Nat.le_of_ble_eq_true rfl) (by simp [pureL, custsV_pure]) rfl ?_
  simp only [impl_AreCustomers, impl_AreCustomers_c, VX, Nat.reduceEqDiff, Nat.reduceAdd]
  refine VW_loopT (fun (i : Nat) ρ H => i ≤ cs.length ∧ H = [] ∧ (∀ j c, j < i → cs[j]? = some c → custAt cs j c) ∧ ρ 0 = custsV cs ∧ ρ 5 = custsV cs ∧ ρ 6 = VI cs.length ∧ ρ 7 = VI i) (fun i => cs.length - i) 0 ⟨Nat.zero_le _, rfl, fun j c h => by omega, rfl, rfl, rfl, rfl⟩ ?_
  rintro i ρ H ⟨hi, rfl, hall, h0, h5, h6, h7⟩
  by_cases hin : (i : Int) < (cs.length : Int)
  · obtain ⟨c, hc⟩ : ∃ c, cs[i]? = some c := ⟨_, List.getElem?_eq_getElem (by omega)⟩
    have e1 := fun H => viaddr_map (f := cV) (t := .op) (H := H) (size := 3) (k := .i64) hc rfl
    have wi : IntKind.i64.wrap ((i : Int) + 1) = ((i + 1 : Nat) : Int) := wrapN (i + 1) (by omega) (by omega)
    have bad : ¬ custAt cs i c → fz depth [VBlk.row 0 [cV c] 3 true] (.sc (.bool false)) = some (.sc (.bool (decide (custsOk cs)))) := fun h => by
      rw [decide_eq_false (fun hk : custsOk cs => h (hk.1 i c hc))]
      exact fz_res rfl
    have next : custAt cs i c → ∀ j c', j < i + 1 → cs[j]? = some c' → custAt cs j c' := fun h j c' hj hc' => by
      rcases Nat.lt_or_ge j i with hji | hji
      · exact hall j c' hji hc'
      · have : j = i := by omega
        subst this
        rw [hc] at hc'
        injection hc' with hc'
        exact hc' ▸ h
    by_cases k1 : 0 ≤ c.t ∧ c.t ≤ 10000
    · by_cases k2 : 1 ≤ c.w ∧ c.w ≤ 1000
      · by_cases k3 : 0 ≤ c.k ∧ c.k ≤ 9
        · have hok : custOk c := ⟨k1, k2, k3⟩
          cases i with
          | zero =>
            have hz : ¬ ((0 : Int) < ((0 : Nat) : Int)) := by omega
            simp only [impl_AreCustomers_b0, h0, h5, h6, h7, hin, e1, rd_cV, wi, k1, k2, k3, hz, impl_in_v, cV, VX, Nat.reduceEqDiff, Nat.reduceAdd, vload_pdef, vstore_pdef, viaddr_rdef, vlen_rdef, vfaddr_pdef, vchk_pdef, visnil_rdef, visnil_nil, visnil_cons, vrow_zero, vrow_succ, List.set_cons_zero, List.set_cons_succ, elemOf_one, elemOf_two, vresult, vresAll, vres1, vfill, isAny_sc, isAny_tree, isAny_ref, isAny_agg, isAny_clo, List.take_zero, List.take_succ_cons, List.take_nil, List.drop_zero, List.drop_succ_cons, List.drop_nil, List.append_nil, Nat.reduceLeDiff, Nat.le_refl, vsplice, Nat.reduceLT, Int.toNat_natCast, eq_self, ge_iff_le, Bool.and_eq_true, Nat.reduceSub]
            refine ⟨1, by omega, rfl, by omega, next ⟨hok, fun p h => by omega⟩, ?_⟩
            simp only [scrubE_app, h0, h5, h6, scrub_of (custsV_pure _), VX, Nat.reduceEqDiff, Nat.reduceAdd, List.take_zero, rowsBelow, List.all_nil, List.length_nil, scrubE_app, scrub_sc, scrub_of]
          | succ i =>
            have hp : (0 : Int) < ((i + 1 : Nat) : Int) := by omega
            have w2 : IntKind.i64.wrap (((i + 1 : Nat) : Int) - 1) = (i : Int) := wrapN i (by omega) (by omega)
            obtain ⟨p, hpr⟩ : ∃ p, cs[i]? = some p := ⟨_, List.getElem?_eq_getElem (by omega)⟩
            have e2 := fun H => viaddr_map (f := cV) (t := .op) (H := H) (size := 3) (k := .i64) hpr rfl
            by_cases hlt : c.t < p.t
            · simp only [impl_AreCustomers_b0, h0, h5, h6, h7, hin, e1, e2, rd_cV, k1, k2, k3, hp, w2, hlt, impl_in_v, cV, VX, Nat.reduceEqDiff, Nat.reduceAdd, vload_pdef, vstore_pdef, viaddr_rdef, vlen_rdef, vfaddr_pdef, vchk_pdef, visnil_rdef, visnil_nil, visnil_cons, vrow_zero, vrow_succ, List.set_cons_zero, List.set_cons_succ, elemOf_one, elemOf_two, vresult, vresAll, vres1, vfill, isAny_sc, isAny_tree, isAny_ref, isAny_agg, isAny_clo, List.take_zero, List.take_succ_cons, List.take_nil, List.drop_zero, List.drop_succ_cons, List.drop_nil, List.append_nil, Nat.reduceLeDiff, Nat.le_refl, vsplice, Nat.reduceLT, Int.toNat_natCast, eq_self, ge_iff_le, Bool.and_eq_true, Nat.reduceSub]
              exact bad fun h => by have := h.2 p (by omega) (by simpa using hpr); omega
            · simp only [impl_AreCustomers_b0, h0, h5, h6, h7, hin, e1, e2, rd_cV, wi, k1, k2, k3, hp, w2, hlt, impl_in_v, cV, VX, Nat.reduceEqDiff, Nat.reduceAdd, vload_pdef, vstore_pdef, viaddr_rdef, vlen_rdef, vfaddr_pdef, vchk_pdef, visnil_rdef, visnil_nil, visnil_cons, vrow_zero, vrow_succ, List.set_cons_zero, List.set_cons_succ, elemOf_one, elemOf_two, vresult, vresAll, vres1, vfill, isAny_sc, isAny_tree, isAny_ref, isAny_agg, isAny_clo, List.take_zero, List.take_succ_cons, List.take_nil, List.drop_zero, List.drop_succ_cons, List.drop_nil, List.append_nil, Nat.reduceLeDiff, Nat.le_refl, vsplice, Nat.reduceLT, Int.toNat_natCast, eq_self, ge_iff_le, Bool.and_eq_true, Nat.reduceSub]
              refine ⟨i + 1 + 1, by omega, rfl, by omega, next (custAt_prev hok fun q hq => by rw [hpr] at hq; injection hq with hq; subst hq; omega), ?_⟩
              simp only [scrubE_app, h0, h5, h6, scrub_of (custsV_pure _), VX, Nat.reduceEqDiff, Nat.reduceAdd, List.take_zero, rowsBelow, List.all_nil, List.length_nil, scrubE_app, scrub_sc, scrub_of]
        · simp only [impl_AreCustomers_b0, h0, h5, h6, h7, hin, e1, rd_cV, k1, k2, k3, impl_in_v, cV, VX, Nat.reduceEqDiff, Nat.reduceAdd, vload_pdef, vstore_pdef, viaddr_rdef, vlen_rdef, vfaddr_pdef, vchk_pdef, visnil_rdef, visnil_nil, visnil_cons, vrow_zero, vrow_succ, List.set_cons_zero, List.set_cons_succ, elemOf_one, elemOf_two, vresult, vresAll, vres1, vfill, isAny_sc, isAny_tree, isAny_ref, isAny_agg, isAny_clo, List.take_zero, List.take_succ_cons, List.take_nil, List.drop_zero, List.drop_succ_cons, List.drop_nil, List.append_nil, Nat.reduceLeDiff, Nat.le_refl, vsplice, Nat.reduceLT, Int.toNat_natCast, eq_self, ge_iff_le, Bool.and_eq_true, Nat.reduceSub]
          exact bad fun h => k3 h.1.2.2
      · simp only [impl_AreCustomers_b0, h0, h5, h6, h7, hin, e1, rd_cV, k1, k2, impl_in_v, cV, VX, Nat.reduceEqDiff, Nat.reduceAdd, vload_pdef, vstore_pdef, viaddr_rdef, vlen_rdef, vfaddr_pdef, vchk_pdef, visnil_rdef, visnil_nil, visnil_cons, vrow_zero, vrow_succ, List.set_cons_zero, List.set_cons_succ, elemOf_one, elemOf_two, vresult, vresAll, vres1, vfill, isAny_sc, isAny_tree, isAny_ref, isAny_agg, isAny_clo, List.take_zero, List.take_succ_cons, List.take_nil, List.drop_zero, List.drop_succ_cons, List.drop_nil, List.append_nil, Nat.reduceLeDiff, Nat.le_refl, vsplice, Nat.reduceLT, Int.toNat_natCast, eq_self, ge_iff_le, Bool.and_eq_true, Nat.reduceSub]
        exact bad fun h => k2 h.1.2.1
    · simp only [impl_AreCustomers_b0, h0, h5, h6, h7, hin, e1, rd_cV, k1, impl_in_v, cV, VX, Nat.reduceEqDiff, Nat.reduceAdd, vload_pdef, vstore_pdef, viaddr_rdef, vlen_rdef, vfaddr_pdef, vchk_pdef, visnil_rdef, visnil_nil, visnil_cons, vrow_zero, vrow_succ, List.set_cons_zero, List.set_cons_succ, elemOf_one, elemOf_two, vresult, vresAll, vres1, vfill, isAny_sc, isAny_tree, isAny_ref, isAny_agg, isAny_clo, List.take_zero, List.take_succ_cons, List.take_nil, List.drop_zero, List.drop_succ_cons, List.drop_nil, List.append_nil, Nat.reduceLeDiff, Nat.le_refl, vsplice, Nat.reduceLT, Int.toNat_natCast, eq_self, ge_iff_le, Bool.and_eq_true, Nat.reduceSub]
      exact bad fun h => k1 h.1.1
  · have hie : i = cs.length := by omega
    subst hie
    simp only [impl_AreCustomers_b0, h0, h5, h6, h7, hin, VX, Nat.reduceEqDiff, Nat.reduceAdd]
    have : custsOk cs ↔ (cs.length : Int) ≤ 24 := ⟨fun h => by have := h.2; omega, fun h => ⟨fun j c hc => hall j c (List.getElem?_eq_some_iff.1 hc).1 hc, by omega⟩⟩
    simp only [this]
    exact fz_res rfl
end Go.PM

/- Patience: the program and the reference, walked. -/
namespace Go.PM
def LR (vals : List Int) (ok : Bool) (n : Nat) (r : VV) (L : VHeap) : Prop :=
  ∃ v, r = .tup [v, .sc (.bool ok)] ∧ ((v = .tree [] .nil ∧ vals = []) ∨ ∃ i g c, v = .ref (n + i) g 0 vals.length c ∧ vals.length ≤ c ∧ L[i]? = some (.row g (vals.map nV) 1 true))
end Go.PM

/- The steps of a statement's walk. -/
namespace Go.PM
theorem fz_live {α : Type} {f : α → VV} {e b g c : Nat} {xs : List α} {H : VHeap} (hp : ∀ x, pureV (f x) = true) (h : vrow H b g = some (xs.map f, e, true)) (hc : xs.length ≤ c) : fz depth H (.ref b g 0 xs.length c) = some (listV f xs) := by
  rw [fz_row h (by simp) hc (pure_map hp)]
theorem vrow_pre {H H' : VHeap} {b g : Nat} {x : List VV × Nat × Bool} (hh : H <+: H') (h : vrow H b g = some x) : vrow H' b g = some x := by
  obtain ⟨L, rfl⟩ := hh
  exact vrow_app h
def Seen {α : Type} (f : α → VV) (xs : List α) (H : VHeap) (r : VV) : Prop := ∀ H', H <+: H' → fz depth H' r = some (listV f xs)
theorem Seen.now {α : Type} {f : α → VV} {xs : List α} {H : VHeap} {r : VV} (h : Seen f xs H r) : fz depth H r = some (listV f xs) := h H (List.prefix_refl _)
theorem Seen.pre {α : Type} {f : α → VV} {xs : List α} {H H' : VHeap} {r : VV} (h : Seen f xs H r) (hh : H <+: H') : Seen f xs H' r := fun H'' h' => h H'' (hh.trans h')
def LV (lo hi : Nat) (vals : List Int) (H : VHeap) (v : VV) : Prop :=
  (v = .tree [] .nil ∧ vals = []) ∨ ∃ b g c, lo ≤ b ∧ b < hi ∧ v = .ref b g 0 vals.length c ∧ vals.length ≤ c ∧ vrow H b g = some (vals.map nV, 1, true)
theorem LV.keep {lo hi : Nat} {vals : List Int} {H H' : VHeap} {v : VV} (h : LV lo hi vals H v) (hk : ∀ b g x, lo ≤ b → b < hi → vrow H b g = some x → vrow H' b g = some x) : LV lo hi vals H' v := by
  rcases h with h | ⟨b, g, c, h1, h2, h3, h4, h5⟩
  · exact .inl h
  · exact .inr ⟨b, g, c, h1, h2, h3, h4, hk _ _ _ h1 h2 h5⟩
theorem LV.pre {lo hi : Nat} {vals : List Int} {H H' : VHeap} {v : VV} (h : LV lo hi vals H v) (hh : H <+: H') : LV lo hi vals H' v := h.keep fun _ _ _ _ _ => vrow_pre hh
theorem LV.set {lo hi b' : Nat} {x : VBlk} {vals : List Int} {H : VHeap} {v : VV} (h : LV lo hi vals H v) (hb : b' < lo ∨ hi ≤ b') : LV lo hi vals (H.set b' x) v := h.keep fun _ _ _ h1 h2 => vrow_set_ne (by omega)
theorem LV.fz {lo hi : Nat} {vals : List Int} {H : VHeap} {v : VV} (h : LV lo hi vals H v) : fz depth H v = some (numsV vals) := by
  rcases h with ⟨rfl, rfl⟩ | ⟨b, g, c, h1, h2, rfl, h4, h5⟩
  · exact fz_niltree
  · exact fz_live (fun _ => rfl) h5 h4
theorem lr_call {F lo : Nat} {args args' : List VV} {vals : List Int} {ok : Bool} {H : VHeap} {K : VV → VHeap → Prop} (h : FC F args' (LR vals ok)) (hraw : raws.contains F = true) (hf : args.mapM (fz depth H) = some args')
    (hk : ∀ v H', H <+: H' → LV H.length H'.length vals H' v → K (.tup [v, .sc (.bool ok)]) H') : vcallP F args lo H K := by
  refine h.call hraw hf ?_
  rintro r L ⟨v, rfl, hv⟩
  refine hk v _ (List.prefix_append _ _) ?_
  rcases hv with h | ⟨i, g, c, rfl, h2, h3⟩
  · exact .inl h
  · have hi := (List.getElem?_eq_some_iff.1 h3).1
    exact .inr ⟨_, g, c, Nat.le_add_right _ _, by rw [List.length_append]; omega, rfl, h2, vrow_of_app h3⟩
theorem eqb_self (b : Bool) : eqbV true (Value.bool b) (Value.bool b) = some (.bool false) := by cases b <;> rfl
end Go.PM

/- Lists of places. -/
namespace Go.PM
abbrev kV (j : Nat) : VV := VI j
abbrev idsV (ws : List Nat) : VV := listV kV ws
theorem ids_pure (ws : List Nat) : pureV (idsV ws) = true := pure_list (size := 1) (fun _ => rfl) fun _ => rfl
theorem and_u64 (n : Nat) (h : n < 18446744073709551616) : pbin .and (.int .u64 (n : Int)) (.int .u64 4294967295) = some (.int .u64 ((n % 4294967296 : Nat) : Int)) := by
  simp only [pbin, if_true]
  have h1 : (BitVec.ofInt IntKind.u64.bits (n : Int) &&& BitVec.ofInt IntKind.u64.bits 4294967295).toNat = n % 4294967296 := by
    rw [BitVec.toNat_and]
    have e1 : (BitVec.ofInt IntKind.u64.bits (n : Int)).toNat = n := by
      rw [BitVec.toNat_ofInt]
      simp only [IntKind.bits]
      omega
    have e2 : (BitVec.ofInt IntKind.u64.bits 4294967295).toNat = 2 ^ 32 - 1 := by
      rw [BitVec.toNat_ofInt]
      simp only [IntKind.bits]
      omega
    rw [e1, e2, Nat.and_two_pow_sub_one_eq_mod]
  rw [h1, wrapU _ (by omega)]
theorem VW_use {fl : Fl} {lo i : Nat} {P : VEnv → VHeap → Prop} {c : PCode} {Q : VQ} {ρ : VEnv} {H : VHeap} (h : VW fl lo (.block i c) (fun e ρ' H' => e = .normal ∧ P ρ' H') ρ H) (hq : ∀ ρ' H', P ρ' H' → Q .normal ρ' H') : VW fl lo c (onExit i Q) ρ H := by
  rw [VW_block] at h
  refine VW_mono (fun x ρ' H' hx => ?_) h
  cases x with
  | normal => exact hq _ _ hx.2
  | exit j =>
    rw [onExit_exit] at hx ⊢
    by_cases hj : j = i
    · rw [if_pos hj] at hx ⊢
      exact hq _ _ hx.2
    · rw [if_neg hj] at hx
      cases hx.1
  | ret => cases hx.1
end Go.PM

/- Rows of rows: lists of lists of numbers as rows of one's own. -/
namespace Go.PM
theorem set_last {H : VHeap} {x y : VBlk} : (H ++ [x]).set H.length y = H ++ [y] := by
  rw [List.set_append_right _ _ (Nat.le_refl _), Nat.sub_self, List.set_cons_zero]
theorem vrow_H0 {H K : VHeap} {g : Nat} : vrow (H ++ K) H.length g = vrow K 0 g := by
  unfold vrow
  rw [List.getElem?_append_right (Nat.le_refl _), Nat.sub_self]
theorem set_H0 {H K : VHeap} {y : VBlk} : (H ++ K).set H.length y = H ++ K.set 0 y := by
  rw [List.set_append_right _ _ (Nat.le_refl _), Nat.sub_self]
def OwnH (n : Nat) (H : VHeap) : Prop := ∃ L, H = List.replicate n .dead ++ L ∧ rowsOwn n L = true
theorem OwnH.app {n g e : Nat} {es : List VV} {w : Bool} {H : VHeap} (h : OwnH n H) (ho : ownL n es = true) : OwnH n (H ++ [.row g es e w]) := by
  obtain ⟨L, rfl, hL⟩ := h
  exact ⟨L ++ [.row g es e w], by rw [List.append_assoc], by simp only [rowsOwn, List.all_append, Bool.and_eq_true, List.all_cons, List.all_nil, and_true]; exact ⟨hL, ho⟩⟩
theorem OwnH.set {n b g e : Nat} {es : List VV} {w : Bool} {H : VHeap} (h : OwnH n H) (hb : n ≤ b) (ho : ownL n es = true) : OwnH n (H.set b (.row g es e w)) := by
  obtain ⟨L, rfl, hL⟩ := h
  refine ⟨L.set (b - n) (.row g es e w), by rw [List.set_append_right _ _ (by simpa using hb), List.length_replicate], ?_⟩
  unfold rowsOwn at hL ⊢
  rw [List.all_eq_true] at hL ⊢
  intro x hx
  rcases List.mem_or_eq_of_mem_set hx with h | rfl
  · exact hL x h
  · exact ho
theorem OwnH.len {n : Nat} {H : VHeap} (h : OwnH n H) : n ≤ H.length := by
  obtain ⟨L, rfl, _⟩ := h
  simp
def rowV (r : Nat × List Int) : VV := .ref r.1 0 0 r.2.length r.2.length
structure RRows (lo hi b : Nat) (H : VHeap) (rs : List (Nat × List Int)) : Prop where
  nd : (rs.map (·.1)).Nodup
  row : ∀ r ∈ rs, lo ≤ r.1 ∧ r.1 < hi ∧ r.1 ≠ b ∧ vrow H r.1 0 = some (r.2.map nV, 1, true)
def RR (lo hi : Nat) (vals : List (List Int)) (H : VHeap) (v : VV) : Prop :=
  (v = .tree [] .nil ∧ vals = []) ∨ ∃ b g c rs, lo ≤ b ∧ b < hi ∧ v = .ref b g 0 vals.length c ∧ vals.length ≤ c ∧ vrow H b g = some (rs.map rowV, 1, true) ∧ rs.map (·.2) = vals ∧ RRows lo hi b H rs
theorem RR.keep {lo hi : Nat} {vals : List (List Int)} {H H' : VHeap} {v : VV} (h : RR lo hi vals H v) (hk : ∀ b g x, lo ≤ b → b < hi → vrow H b g = some x → vrow H' b g = some x) : RR lo hi vals H' v := by
  rcases h with h | ⟨b, g, c, rs, h1, h2, h3, h4, h5, h6, h7⟩
  · exact .inl h
  · exact .inr ⟨b, g, c, rs, h1, h2, h3, h4, hk _ _ _ h1 h2 h5, h6, h7.nd, fun r hr => by
      obtain ⟨k1, k2, k3, k4⟩ := h7.row r hr
      exact ⟨k1, k2, k3, hk _ _ _ k1 k2 k4⟩⟩
theorem RR.pre {lo hi : Nat} {vals : List (List Int)} {H H' : VHeap} {v : VV} (h : RR lo hi vals H v) (hh : H <+: H') : RR lo hi vals H' v := h.keep fun _ _ _ _ _ => vrow_pre hh
theorem RR.set {lo hi b' : Nat} {x : VBlk} {vals : List (List Int)} {H : VHeap} {v : VV} (h : RR lo hi vals H v) (hb : b' < lo ∨ hi ≤ b') : RR lo hi vals (H.set b' x) v := h.keep fun _ _ _ h1 h2 => vrow_set_ne (by omega)
end Go.PM

/- The pure machine's form of functions, as the settings give it: S41. -/
namespace Go.PM
def spec_B10Customers_c : PCode := (.seq (.reg [⟨(some 2), (.mv (.const (.slice none 0 0))), none, false, []⟩]) (.seq (.reg [⟨(some 4), (.mv (.tmp 0)), none, false, []⟩, ⟨(some 5), (.call 13 [(.tmp 4)]), none, false, []⟩, ⟨(some 3), (.mv (.tmp 5)), none, false, []⟩]) (.seq (.reg [⟨(some 6), (.mv (.tmp 3)), none, false, []⟩, ⟨(some 7), (.call 14 [(.tmp 6)]), none, false, []⟩, ⟨(some 2), (.mv (.tmp 7)), none, false, []⟩]) .ret)))
def spec_B10Customers : PFunc := ⟨8, [(.tmp 2)], spec_B10Customers_c⟩
theorem spec_B10Customers_t : tab 5 = some spec_B10Customers := by kernel_rfl
end Go.PM

/- Draws from bytes: only how large they are is told. -/
namespace Go.PM
abbrev u8V (n : Nat) : VV := VK .u8 n
abbrev bytV (xs : List Nat) : VV := listV u8V xs
theorem byt_pure (xs : List Nat) : pureV (bytV xs) = true := pure_list (size := 1) (fun _ => rfl) fun _ => rfl
theorem shr40_u64 (n : Nat) : pbin .shr (.int .u64 (n : Int)) (.int .u64 40) = some (.int .u64 ((n / 1099511627776 : Nat) : Int)) := by
  simp only [pbin]
  have h1 : ¬ ((40 : Int) < 0) := by decide
  have h2 : Nat.min (Int.toNat 40) IntKind.u64.bits = 40 := by decide
  rw [if_neg h1, h2]
  congr 2
  rw [Int.fdiv_eq_ediv_of_nonneg _ (by decide)]
  omega
theorem and255_u64 (n : Nat) (h : n < 18446744073709551616) : pbin .and (.int .u64 (n : Int)) (.int .u64 255) = some (.int .u64 ((n % 256 : Nat) : Int)) := by
  simp only [pbin, if_true]
  have h1 : (BitVec.ofInt IntKind.u64.bits (n : Int) &&& BitVec.ofInt IntKind.u64.bits 255).toNat = n % 256 := by
    rw [BitVec.toNat_and]
    have e1 : (BitVec.ofInt IntKind.u64.bits (n : Int)).toNat = n := by
      rw [BitVec.toNat_ofInt]
      simp only [IntKind.bits]
      omega
    have e2 : (BitVec.ofInt IntKind.u64.bits 255).toNat = 2 ^ 8 - 1 := by
      rw [BitVec.toNat_ofInt]
      simp only [IntKind.bits]
      omega
    rw [e1, e2, Nat.and_two_pow_sub_one_eq_mod]
  rw [h1, wrapU _ (by omega)]
abbrev srcV (code : List Nat) (a seed : Nat) : VV := .agg [bytV code, VI a, VK .u64 seed]
def bytOk (code : List Nat) : Prop := (∀ x ∈ code, x < 256) ∧ code.length ≤ 1048576
theorem wrapU_is (n : Int) : ∃ m : Nat, IntKind.u64.wrap n = (m : Int) ∧ m < 18446744073709551616 := by
  refine ⟨(n % 18446744073709551616).toNat, ?_, ?_⟩
  · rw [wrap_u64]; omega
  · omega
set_option maxHeartbeats 1000000 in
theorem spec_next_v {lo b : Nat} {H : VHeap} {code : List Nat} {a seed : Nat} (hc : bytOk code) (hr : vrow H b 0 = some ([srcV code a seed], 3, true)) (hlo : lo ≤ b) (ha : a ≤ 1000000000) (hs : seed < 18446744073709551616) :
    VRaw 44 [.ptr b 0 0 0] lo H fun r H' => ∃ x seed' : Nat, x ≤ 255 ∧ seed' < 18446744073709551616 ∧ r = VI x ∧ H' = H.set b (.row 0 [srcV code (a + 1) seed'] 3 true) := by
  refine VRaw.walk ⟨true, false⟩ __spec_l00Src__next_t (Nat.le_of_ble_eq_true rfl) ?_
  have hbl : b < H.length := (List.getElem?_eq_some_iff.1 (vrow_some.1 hr)).1
  have h00 := vrow_some.1 hr
  have hR : ∀ v : VV, vrow (H.set b (.row 0 [v] 3 true)) b 0 = some ([v], 3, true) := fun v => vrow_some.2 (List.getElem?_set_self hbl)
  have l0 : rdCells false 1 (srcV code a seed) 0 = some (bytV code) := rfl
  have wa : IntKind.i64.wrap ((a : Int) + 1) = ((a + 1 : Nat) : Int) := wrapN (a + 1) (by omega) (by omega)
  have hlen := hc.2
  have rdA : ∀ (p q r : VV), rdCells false 1 (.agg [p, q, r]) 0 = some p := fun _ _ _ => rfl
  have rdB : ∀ (p q r : VV), rdCells false 1 (.agg [p, q, r]) 1 = some q := fun _ _ _ => rfl
  have rdC : ∀ (p q r : VV), rdCells false 1 (.agg [p, q, r]) 2 = some r := fun _ _ _ => rfl
  have st1 : ∀ x y z w : Int, vstore lo 1 (.ptr b 0 0 1) (VI w) H = some (H.set b (.row 0 [.agg [bytV code, VI w, VK .u64 seed]] 3 true)) := fun x y z w => by
    simp only [vstore, hr, List.getElem?_cons_zero]
    rw [if_pos ⟨rfl, hlo, rfl⟩, if_neg (by decide), if_pos ⟨by decide, by decide⟩]
    rfl
  have st2 : ∀ (w : Int), vstore lo 1 (.ptr b 0 0 2) (VK .u64 w) (H.set b (.row 0 [.agg [bytV code, VI ((a + 1 : Nat) : Int), VK .u64 seed]] 3 true)) = some (H.set b (.row 0 [.agg [bytV code, VI ((a + 1 : Nat) : Int), VK .u64 w]] 3 true)) := fun w => by
    simp only [vstore, hR, List.getElem?_cons_zero]
    rw [if_pos ⟨rfl, hlo, rfl⟩, if_neg (by decide), if_pos ⟨by decide, by decide⟩, List.set_set]
    rfl
  have fin : ∀ x : Nat, x ≤ 255 → ∀ s' : Nat, s' < 18446744073709551616 → ∃ x_1 seed' : Nat, x_1 ≤ 255 ∧ seed' < 18446744073709551616 ∧ VI (x : Int) = VI (x_1 : Int) ∧ H.set b (.row 0 [.agg [bytV code, VI ((a + 1 : Nat) : Int), VK .u64 (s' : Int)]] 3 true) = H.set b (.row 0 [srcV code (a + 1) seed'] 3 true) := fun x hx s' hs' => ⟨x, s', hx, hs', rfl, rfl⟩
  by_cases hin : (a : Int) < (code.length : Int)
  · obtain ⟨x, hx⟩ : ∃ x, code[a]? = some x := ⟨_, List.getElem?_eq_getElem (by omega)⟩
    have hxb := hc.1 x (List.mem_of_getElem? hx)
    have e1 := fun H => viaddr_map (f := u8V) (t := .op) (H := H) (size := 1) (k := .i64) hx rfl
    have rdu : rdCells false 1 (u8V x) 0 = some (VK .u8 x) := rfl
    have c1 : IntKind.i64.wrap (x : Int) = (x : Int) := wrap64 (by omega) (by omega)
    have c2 : IntKind.u64.wrap (x : Int) = (x : Int) := wrapU x (by omega)
    have hle : ((a + 1 : Nat) : Int) ≤ (code.length : Int) := by omega
    obtain ⟨s1, h1, _⟩ := wrapU_is ((seed : Int) * 6364136223846793005)
    obtain ⟨s2, h2, _⟩ := wrapU_is ((s1 : Int) + (x : Int))
    obtain ⟨s3, h3, h3'⟩ := wrapU_is ((s2 : Int) + 1442695040888963407)
    simp only [__spec_l00Src__next, __spec_l00Src__next_c, hr, hR, hin, rdA, rdB, rdC, e1, rdu, c1, c2, wa, st1 0 0 0, st2, h1, h2, h3, hle, List.getElem?_cons_zero, VX, Nat.reduceEqDiff, Nat.reduceAdd, vload_pdef, vstore_pdef, viaddr_rdef, vlen_rdef, vfaddr_pdef, vchk_pdef, visnil_rdef, visnil_nil, visnil_cons, vrow_zero, vrow_succ, List.set_cons_zero, List.set_cons_succ, elemOf_one, elemOf_two, vresult, vresAll, vres1, vfill, isAny_sc, isAny_tree, isAny_ref, isAny_agg, isAny_clo, List.take_zero, List.take_succ_cons, List.take_nil, List.drop_zero, List.drop_succ_cons, List.drop_nil, List.append_nil, Nat.reduceLeDiff, Nat.le_refl, vsplice, Nat.reduceLT, Int.toNat_natCast, eq_self, ge_iff_le, Bool.and_eq_true, Nat.reduceSub]
    exact ⟨x, s3, by omega, h3', rfl, rfl⟩
  · have c2 : IntKind.u64.wrap 0 = 0 := wrapU 0 (by decide)
    have hle : ¬ ((a + 1 : Nat) : Int) ≤ (code.length : Int) := by omega
    obtain ⟨s1, h1, _⟩ := wrapU_is ((seed : Int) * 6364136223846793005)
    obtain ⟨s2, h2, _⟩ := wrapU_is ((s1 : Int) + 0)
    obtain ⟨s3, h3, h3'⟩ := wrapU_is ((s2 : Int) + 1442695040888963407)
    have q1 := shr40_u64 s3
    have q2 := and255_u64 (s3 / 1099511627776) (by omega)
    have c3 : IntKind.i64.wrap ((s3 / 1099511627776 % 256 : Nat) : Int) = ((s3 / 1099511627776 % 256 : Nat) : Int) := wrap64 (by omega) (by omega)
    simp only [__spec_l00Src__next, __spec_l00Src__next_c, hr, hR, hin, rdA, rdB, rdC, c2, wa, st1 0 0 0, st2, h1, h2, h3, hle, q1, q2, c3, List.getElem?_cons_zero, VX, Nat.reduceEqDiff, Nat.reduceAdd, vload_pdef, vstore_pdef, viaddr_rdef, vlen_rdef, vfaddr_pdef, vchk_pdef, visnil_rdef, visnil_nil, visnil_cons, vrow_zero, vrow_succ, List.set_cons_zero, List.set_cons_succ, elemOf_one, elemOf_two, vresult, vresAll, vres1, vfill, isAny_sc, isAny_tree, isAny_ref, isAny_agg, isAny_clo, List.take_zero, List.take_succ_cons, List.take_nil, List.drop_zero, List.drop_succ_cons, List.drop_nil, List.append_nil, Nat.reduceLeDiff, Nat.le_refl, vsplice, Nat.reduceLT, Int.toNat_natCast, eq_self, ge_iff_le, Bool.and_eq_true, Nat.reduceSub]
    exact ⟨s3 / 1099511627776 % 256, s3, by omega, h3', rfl, rfl⟩
theorem rem_i64 (x n : Nat) (hn : n ≠ 0) : pbin .rem (.int .i64 (x : Int)) (.int .i64 (n : Int)) = some (.int .i64 ((x % n : Nat) : Int)) := by
  simp only [pbin, if_true]
  rw [if_neg (by omega)]
  rfl
theorem spec_pick_v {lo b : Nat} {H : VHeap} {code : List Nat} {a seed n : Nat} (hc : bytOk code) (hr : vrow H b 0 = some ([srcV code a seed], 3, true)) (hlo : lo ≤ b) (ha : a ≤ 1000000000) (hs : seed < 18446744073709551616) (hn : 2 ≤ n ∧ n ≤ 200) :
    VRaw 26 [.ptr b 0 0 0, VI (n : Int)] lo H fun r H' => ∃ x seed' : Nat, x < n ∧ seed' < 18446744073709551616 ∧ r = VI x ∧ H' = H.set b (.row 0 [srcV code (a + 1) seed'] 3 true) := by
  refine VRaw.walk ⟨true, false⟩ __spec_l00Src__pick_t (Nat.le_of_ble_eq_true rfl) ?_
  have h1 : ¬ (n : Int) ≤ 1 := by omega
  have h2 : ¬ (200 : Int) < (n : Int) := by omega
  simp only [__spec_l00Src__pick, __spec_l00Src__pick_c, h1, VX, Nat.reduceEqDiff, Nat.reduceAdd]
  refine vcall_raw rfl ((spec_next_v hc hr hlo ha hs).mono ?_)
  rintro r H' ⟨x, seed', hx, hs', rfl, rfl⟩
  have q := rem_i64 x n (by omega)
  simp only [h2, q, VX, Nat.reduceEqDiff, Nat.reduceAdd]
  exact ⟨x % n, seed', Nat.mod_lt _ (by omega), hs', rfl, rfl⟩
theorem spec_among_v {lo b : Nat} {H : VHeap} {code : List Nat} {a seed : Nat} {vals : List Int} {t : TK} (hc : bytOk code) (hr : vrow H b 0 = some ([srcV code a seed], 3, true)) (hlo : lo ≤ b) (ha : a ≤ 1000000000) (hs : seed < 18446744073709551616) (hn : 2 ≤ vals.length ∧ vals.length ≤ 200) :
    VRaw 27 [.ptr b 0 0 0, .tree (vals.map nV) t] lo H fun r H' => ∃ (v : Int) (seed' : Nat), v ∈ vals ∧ seed' < 18446744073709551616 ∧ r = VI v ∧ H' = H.set b (.row 0 [srcV code (a + 1) seed'] 3 true) := by
  refine VRaw.walk ⟨true, false⟩ __spec_l00Src__among_t (Nat.le_of_ble_eq_true rfl) ?_
  simp only [__spec_l00Src__among, __spec_l00Src__among_c, VX, Nat.reduceEqDiff, Nat.reduceAdd]
  refine vcall_raw rfl ((spec_pick_v hc hr hlo ha hs hn).mono ?_)
  rintro r H' ⟨x, seed', hx, hs', rfl, rfl⟩
  obtain ⟨v, hv⟩ : ∃ v, vals[x]? = some v := ⟨_, List.getElem?_eq_getElem hx⟩
  have e1 := fun H => viaddr_map (f := nV) (t := t) (H := H) (size := 1) (k := .i64) hv rfl
  have rds : rdCells false 1 (nV v) 0 = some (VI v) := rfl
  simp only [e1, rds, VX, Nat.reduceEqDiff, Nat.reduceAdd]
  exact ⟨v, seed', List.mem_of_getElem? hv, hs', rfl, rfl⟩
structure Drawn (cs : List Cust) : Prop where
  ok : custsOk cs
  few : cs.length ≤ 8
  small : ∀ c ∈ cs, c.w ≤ 7 ∧ c.t ≤ 75
theorem custs_snoc {cs : List Cust} {c : Cust} (h : custsOk cs) (hl : cs.length ≤ 23) (hb : ∀ x ∈ cs, x.t ≤ c.t) (hc : custOk c) : custsOk (cs ++ [c]) := by
  refine ⟨fun i x hx => ?_, by simp; omega⟩
  rcases Nat.lt_or_ge i cs.length with h1 | h1
  · rw [List.getElem?_append_left h1] at hx
    obtain ⟨g1, g2⟩ := h.1 i x hx
    refine ⟨g1, fun b hb0 hb1 => ?_⟩
    rw [List.getElem?_append_left (by omega)] at hb1
    exact g2 b hb0 hb1
  · have h2 : i = cs.length := by
      have := (List.getElem?_eq_some_iff.1 hx).1
      simp at this
      omega
    subst h2
    rw [List.getElem?_append_right (Nat.le_refl _), Nat.sub_self] at hx
    injection hx with hx
    subst hx
    refine ⟨hc, fun b hb0 hb1 => ?_⟩
    rw [List.getElem?_append_left (by omega)] at hb1
    exact hb b (List.mem_of_getElem? hb1)
set_option maxHeartbeats 2000000 in
theorem spec_l05DrawOk_v {lo b : Nat} {H : VHeap} {code : List Nat} {seed : Nat} (hc : bytOk code) (hr : vrow H b 0 = some ([srcV code 0 seed], 3, true)) (hlo : lo ≤ b) (hs : seed < 18446744073709551616) :
    VRaw 14 [.ptr b 0 0 0] lo H fun r H' => ∃ (cs : List Cust) (a seed' : Nat) (K : VHeap), Drawn cs ∧ r = .ref H.length cs.length 0 cs.length cs.length ∧ H' = H.set b (.row 0 [srcV code a seed'] 3 true) ++ (.row cs.length (cs.map cV) 3 true :: K) := by
  refine VRaw.walk ⟨true, false⟩ spec_l05DrawOk_t (Nat.le_of_ble_eq_true rfl) ?_
  have hbl : b < H.length := (List.getElem?_eq_some_iff.1 (vrow_some.1 hr)).1
  have e0 := fun H => vlit_nil (H := H) (lr := false) (z := [.int .i64 0, .int .i64 0, .int .i64 0]) rfl
  have rB : ∀ (a s : Nat) (K : VHeap), vrow (H.set b (.row 0 [srcV code a s] 3 true) ++ K) b 0 = some ([srcV code a s], 3, true) := fun a s K => vrow_app (vrow_some.2 (List.getElem?_set_self hbl))
  have sB : ∀ (a s a' s' : Nat) (K : VHeap), (H.set b (.row 0 [srcV code a s] 3 true) ++ K).set b (.row 0 [srcV code a' s'] 3 true) = H.set b (.row 0 [srcV code a' s'] 3 true) ++ K := fun a s a' s' K => by
    rw [List.set_append_left _ _ (by simpa using hbl), List.set_set]
  have k0 : ∀ (a s g : Nat) (K : VHeap), vrow (H.set b (.row 0 [srcV code a s] 3 true) ++ K) H.length g = vrow K 0 g := fun a s g K => by
    have := vrow_H0 (H := H.set b (.row 0 [srcV code a s] 3 true)) (K := K) (g := g)
    rwa [List.length_set] at this
  have hPl : ∀ (a s : Nat) (X : VHeap), (H.set b (.row 0 [srcV code a s] 3 true) ++ X).length = H.length + X.length := fun a s X => by simp
  have k2 : ∀ (a s g : Nat) (x y : VBlk) (K : VHeap), vrow (H.set b (.row 0 [srcV code a s] 3 true) ++ (x :: (K ++ [y]))) (H.length + (K.length + 1)) g = vrow [y] 0 g := fun a s g x y K => by
    have := vrow_H0 (H := H.set b (.row 0 [srcV code a s] 3 true) ++ (x :: K)) (K := [y]) (g := g)
    rwa [hPl, List.length_cons, List.append_assoc, List.cons_append] at this
  have u0 : ∀ (a s : Nat) (K : VHeap) (y : VBlk), (H.set b (.row 0 [srcV code a s] 3 true) ++ K).set H.length y = H.set b (.row 0 [srcV code a s] 3 true) ++ K.set 0 y := fun a s K y => by
    have := set_H0 (H := H.set b (.row 0 [srcV code a s] 3 true)) (K := K) (y := y)
    rwa [List.length_set] at this
  have u2 : ∀ (a s : Nat) (x y z : VBlk) (K : VHeap), (H.set b (.row 0 [srcV code a s] 3 true) ++ (x :: (K ++ [y]))).set (H.length + (K.length + 1)) z = H.set b (.row 0 [srcV code a s] 3 true) ++ (x :: (K ++ [z])) := fun a s x y z K => by
    have := set_last (H := H.set b (.row 0 [srcV code a s] 3 true) ++ (x :: K)) (x := y) (y := z)
    rwa [hPl, List.length_cons, List.append_assoc, List.cons_append, List.append_assoc, List.cons_append] at this
  have hH : H = H.set b (.row 0 [srcV code 0 seed] 3 true) := by
    obtain ⟨hlt, hge⟩ := List.getElem?_eq_some_iff.1 (vrow_some.1 hr)
    rw [← hge, List.set_getElem_self]
  have start : ∀ K, vcallP 26 [.ptr b 0 0 0, VI 4] lo (H ++ [.row 0 [] 3 true]) K ↔ vcallP 26 [.ptr b 0 0 0, VI 4] lo (H.set b (.row 0 [srcV code 0 seed] 3 true) ++ [.row 0 [] 3 true]) K := fun K => by rw [← hH]
  simp only [spec_l05DrawOk, spec_l05DrawOk_c, e0, List.length_cons, List.length_nil, VX, Nat.reduceEqDiff, Nat.reduceAdd]
  rw [start]
  refine vcall_raw rfl ((spec_pick_v (n := 4) hc (rB 0 seed _) hlo (by omega) hs (by decide)).mono ?_)
  rintro r H' ⟨x, s1, hx, hs1, rfl, rfl⟩
  rw [sB]
  simp only [VX, Nat.reduceEqDiff, Nat.reduceAdd]
  refine vcall_raw rfl ((spec_pick_v (n := 9) hc (rB 1 s1 _) hlo (by omega) hs1 (by decide)).mono ?_)
  rintro r H' ⟨y, s2, hy, hs2, rfl, rfl⟩
  rw [sB]
  simp only [VX, Nat.reduceEqDiff, Nat.reduceAdd]
  refine VW_loop (fun (st : Nat × List Cust × Nat) ρ H' => st.2.1.length + st.1 ≤ 8 ∧ custsOk st.2.1 ∧ (∀ c ∈ st.2.1, c.t ≤ (st.2.2 : Int) ∧ c.w ≤ 7 ∧ c.t ≤ 75) ∧ st.2.2 ≤ 3 + 9 * st.2.1.length ∧ ρ 0 = .ptr b 0 0 0 ∧ ρ 3 = .ref H.length st.2.1.length 0 st.2.1.length st.2.1.length ∧ ρ 4 = VI st.2.2 ∧ ρ 5 = VI st.1 ∧
    ∃ (a s : Nat) (K : VHeap), a ≤ 2 + 3 * st.2.1.length ∧ s < 18446744073709551616 ∧ H' = H.set b (.row 0 [srcV code a s] 3 true) ++ (.row st.2.1.length (st.2.1.map cV) 3 true :: K)) (fun st => st.1) (y, [], x) ⟨by simp only [List.length_nil]; omega, ⟨fun i c h => (by cases h), Nat.zero_le _⟩, fun c hc => (by cases hc), by simp only [List.length_nil]; omega, rfl, rfl, rfl, rfl, 2, s2, [], by simp, hs2, rfl⟩ ?_
  clear start hx hy hs1 hs2 s1 s2 x y
  rintro ⟨r, cs, t⟩ ρ H' ⟨h1, h2, h3, h4, g0, g3, g4, g5, a, s, K, ha, hsd, rfl⟩
  simp only at h1 h2 h3 h4 g3 g4 g5 ha
  cases r with
  | zero =>
    have hlt : ¬ (0 : Int) < ((0 : Nat) : Int) := by decide
    simp only [spec_l05DrawOk_b0, g3, g5, hlt, VX, Nat.reduceEqDiff, Nat.reduceAdd]
    exact ⟨cs, a, s, K, ⟨h2, by omega, fun c hc => ⟨(h3 c hc).2.1, (h3 c hc).2.2⟩⟩, rfl, rfl⟩
  | succ r =>
    have hlt : (0 : Int) < ((r + 1 : Nat) : Int) := by omega
    simp only [spec_l05DrawOk_b0, g0, g3, g4, g5, hlt, VX, Nat.reduceEqDiff, Nat.reduceAdd]
    refine vcall_raw rfl ((spec_pick_v (n := 7) hc (rB a s _) hlo (by omega) hsd (by decide)).mono ?_)
    rintro q H1 ⟨x, s1, hx, hs1, rfl, rfl⟩
    rw [sB]
    have w1 : IntKind.i64.wrap (1 + (x : Int)) = 1 + (x : Int) := wrap64 (by omega) (by omega)
    have hloK : lo ≤ H.length + (K.length + 1) := by omega
    have ev : ∀ (z : VV), elemOf [VV.sc (.int .i64 0), .sc (.int .i64 0), .sc (.int .i64 0)] = .agg [VI 0, VI 0, VI 0] := fun _ => rfl
    simp only [g0, w1, hPl, k2, u2, hloK, List.length_cons, List.append_assoc, List.cons_append, List.nil_append, List.getElem?_cons_zero, VX, Nat.reduceEqDiff, Nat.reduceAdd, vload_pdef, vstore_pdef, viaddr_rdef, vlen_rdef, vfaddr_pdef, vchk_pdef, visnil_rdef, visnil_nil, visnil_cons, vrow_zero, vrow_succ, List.set_cons_zero, List.set_cons_succ, elemOf_one, elemOf_two, vresult, vresAll, vres1, vfill, isAny_sc, isAny_tree, isAny_ref, isAny_agg, isAny_clo, List.take_zero, List.take_succ_cons, List.take_nil, List.drop_zero, List.drop_succ_cons, List.drop_nil, List.append_nil, Nat.reduceLeDiff, Nat.le_refl, vsplice, Nat.reduceLT, Int.toNat_natCast, eq_self, ge_iff_le, Bool.and_eq_true, Nat.reduceSub]
    refine vcall_raw rfl ((spec_pick_v (n := 3) hc (rB (a + 1) s1 _) hlo (by omega) hs1 (by decide)).mono ?_)
    rintro q H1 ⟨y, s3, hy, hs3, rfl, rfl⟩
    rw [sB]
    have hcust : cV ⟨t, 1 + x, y⟩ = .agg [VI t, VI (1 + x), VI y] := rfl
    have eL : ∀ H, vlit false [.int .i64 0, .int .i64 0, .int .i64 0] 1 [(0, .agg [VI t, VI (1 + x), VI y])] H = some (.tree [.agg [VI t, VI (1 + x), VI y]] (.cl 3), H) := fun H => vlit_one rfl rfl rfl
    have eS : ∀ H, vsource 3 (.tree [.agg [VI t, VI (1 + x), VI y]] (.cl 3)) H = some [.agg [VI t, VI (1 + x), VI y]] := fun H => vsource_one rfl rfl
    have eP : ∀ K', vappend lo 3 24 (.ref H.length cs.length 0 cs.length cs.length) [.agg [VI t, VI (1 + x), VI y]] (H.set b (.row 0 [srcV code (a + 1 + 1) s3] 3 true) ++ (.row cs.length (cs.map cV) 3 true :: K')) = some (.ref H.length (cs.length + 1) 0 (cs.length + 1) (cs.length + 1), H.set b (.row 0 [srcV code (a + 1 + 1) s3] 3 true) ++ (.row (cs.length + 1) ((cs ++ [(⟨t, 1 + x, y⟩ : Cust)]).map cV) 3 true :: K')) := fun K' => by
      have := vappend_row (f := cV) (xs := cs) (x := ⟨t, 1 + x, y⟩) (lo := lo) (b := H.length) (g := cs.length) (n := cs.length) (e := 3) (bytes := 24) (H := H.set b (.row 0 [srcV code (a + 1 + 1) s3] 3 true) ++ (.row cs.length (cs.map cV) 3 true :: K')) (by rw [k0, vrow_zero]) rfl (by omega) (by decide) (by decide) (by omega)
      rw [u0, List.set_cons_zero] at this
      exact this
    have eM : ∀ H, vlit false [.int .i64 0] 7 [(0, VI 0), (1, VI 0), (2, VI 1), (3, VI 2), (4, VI 3), (5, VI 5), (6, VI 9)] H = some (.tree (([0, 0, 1, 2, 3, 5, 9] : List Int).map nV) (.cl 1), H) := fun H => by simp [vlit, litFill, vcells, vscal, inj1, elemOf, isSc, List.replicate_succ]
    have ag : rdCells true 3 (.agg [VI t, VI (1 + x), VI y]) 0 = some (.agg [VI t, VI (1 + x), VI y]) := rfl
    simp only [g0, g3, g4, hPl, k2, u2, hloK, eL, eS, eP, eM, ag, List.getElem?_cons_zero, VX, Nat.reduceEqDiff, Nat.reduceAdd, vload_pdef, vstore_pdef, viaddr_rdef, vlen_rdef, vfaddr_pdef, vchk_pdef, visnil_rdef, visnil_nil, visnil_cons, vrow_zero, vrow_succ, List.set_cons_zero, List.set_cons_succ, elemOf_one, elemOf_two, vresult, vresAll, vres1, vfill, isAny_sc, isAny_tree, isAny_ref, isAny_agg, isAny_clo, List.take_zero, List.take_succ_cons, List.take_nil, List.drop_zero, List.drop_succ_cons, List.drop_nil, List.append_nil, Nat.reduceLeDiff, Nat.le_refl, vsplice, Nat.reduceLT, Int.toNat_natCast, eq_self, ge_iff_le, Bool.and_eq_true, Nat.reduceSub]
    refine vcall_raw rfl ((spec_among_v (vals := [0, 0, 1, 2, 3, 5, 9]) hc (rB (a + 1 + 1) s3 _) hlo (by omega) hs3 (by decide)).mono ?_)
    rintro q H1 ⟨v, s4, hv, hs4, rfl, rfl⟩
    rw [sB]
    have hvb : 0 ≤ v ∧ v ≤ 9 := by
      simp only [List.mem_cons, List.not_mem_nil, or_false] at hv
      omega
    have w2 : IntKind.i64.wrap ((t : Int) + v) = (((t + v.toNat : Nat) : Nat) : Int) := wrapN (t + v.toNat) (by omega) (by omega)
    have w3 : IntKind.i64.wrap (((r + 1 : Nat) : Int) - 1) = (r : Int) := wrapN r (by omega) (by omega)
    simp only [g5, w2, w3, VX, Nat.reduceEqDiff, Nat.reduceAdd]
    refine ⟨(r, cs ++ [⟨t, 1 + x, y⟩], t + v.toNat), by simp only; omega, by simp only [List.length_append, List.length_cons, List.length_nil]; omega, custs_snoc h2 (by omega) (fun c hcm => (h3 c hcm).1) ⟨⟨by simp only; omega, by simp only; omega⟩, ⟨by simp only; omega, by simp only; omega⟩, ⟨by simp only; omega, by simp only; omega⟩⟩, fun c hcm => ?_, by simp only [List.length_append, List.length_cons, List.length_nil]; omega, ?_⟩
    · simp only
      rcases List.mem_append.1 hcm with hcm | hcm
      · have := h3 c hcm
        omega
      · rw [List.mem_singleton] at hcm
        subst hcm
        simp only
        omega
    · simp only [g0, List.length_append, List.length_cons, List.length_nil, Nat.zero_add, VX, Nat.reduceEqDiff, Nat.reduceAdd]
      exact ⟨a + 1 + 1 + 1, s4, _, by omega, hs4, rfl⟩
theorem spec_B10Customers_v {lo : Nat} {H : VHeap} {code : List Nat} (hc : bytOk code) (hlo : lo ≤ H.length) :
    VRaw 5 [bytV code] lo H fun r H' => ∃ (cs : List Cust) (x : VBlk) (K : VHeap), Drawn cs ∧ r = .ref (H.length + 1) cs.length 0 cs.length cs.length ∧ H' = H ++ (x :: .row cs.length (cs.map cV) 3 true :: K) := by
  refine VRaw.walk ⟨true, false⟩ spec_B10Customers_t (Nat.le_of_ble_eq_true rfl) ?_
  simp only [spec_B10Customers, spec_B10Customers_c, VX, Nat.reduceEqDiff, Nat.reduceAdd]
  have hF : VRaw 13 [bytV code] lo H fun r H' => r = .ptr H.length 0 0 0 ∧ H' = H ++ [.row 0 [srcV code 0 0] 3 true] := by
    refine VRaw.walk ⟨false, false⟩ spec_l00From_t (Nat.le_of_ble_eq_true rfl) ?_
    simp only [spec_l00From, spec_l00From_c, List.length_cons, List.length_nil, vcells, List.all_cons, List.all_nil, VX, Nat.reduceEqDiff, Nat.reduceAdd, vload_pdef, vstore_pdef, viaddr_rdef, vlen_rdef, vfaddr_pdef, vchk_pdef, visnil_rdef, visnil_nil, visnil_cons, vrow_zero, vrow_succ, List.set_cons_zero, List.set_cons_succ, elemOf_one, elemOf_two, vresult, vresAll, vres1, vfill, isAny_sc, isAny_tree, isAny_ref, isAny_agg, isAny_clo, List.take_zero, List.take_succ_cons, List.take_nil, List.drop_zero, List.drop_succ_cons, List.drop_nil, List.append_nil, Nat.reduceLeDiff, Nat.le_refl, vsplice, Nat.reduceLT, Int.toNat_natCast, eq_self, ge_iff_le, Bool.and_eq_true, Nat.reduceSub]
    rfl
  refine vcall_raw rfl (hF.mono ?_)
  rintro r H' ⟨rfl, rfl⟩
  simp only [VX, Nat.reduceEqDiff, Nat.reduceAdd]
  refine vcall_raw rfl ((spec_l05DrawOk_v (seed := 0) hc (by rw [vrow_H0, vrow_zero]) hlo (by decide)).mono ?_)
  rintro r H' ⟨cs, a, s, K, hD, rfl, rfl⟩
  simp only [VX, Nat.reduceEqDiff, Nat.reduceAdd]
  refine ⟨cs, .row 0 [srcV code a s] 3 true, K, hD, by simp, ?_⟩
  rw [set_last, List.append_assoc]
  rfl
end Go.PM

/- The statements' arguments on bytes, opened. -/
namespace Go.Proofs.YtbgfeiagaieljaaDoor
open Go.ChangeShapes Go.WideShapes Go.ChangeAt Go.RowKit Go.PM
def cb (n : Nat) : List Value := [.int .u8 (n : Int)]
theorem cb_ok : EncOk cb 1 := ⟨fun _ => rfl, fun _ => rfl, by decide⟩
theorem open_byte {T : Type} {encT : TypeId × Value → T} {W : World} (fuel : Nat) (cs : List Value) (y : DataW T × List MemPlace) (h : DataW.trod encT Tryd.prog W 0 (fun _ => true) true fuel 5 cs = some y) : ∃ x : Nat, cs = cb x ∧ x < 256 := by
  obtain ⟨n, e, _, w⟩ := DataW.trod_int Tryd.underlying5 h
  simp only [Lit.wf, Bool.and_eq_true, decide_eq_true_eq] at w
  have w1 : (0 : Int) ≤ n := w.1
  have w2 : n ≤ 255 := w.2
  refine ⟨n.toNat, ?_, by omega⟩
  rw [e]
  unfold cb
  rw [Int.toNat_of_nonneg w1]
theorem byte_self (m : PMap) (x : Nat) (_ : x < 256) (i : Nat) (hi : i < 1) : RV m ((cb x).getD i undef) ((cb x).getD i undef) := by
  match i, hi with
  | 0, _ => exact .int _ _
end Go.Proofs.YtbgfeiagaieljaaDoor

/- From the value logic to the pure machine: a contract on trees, called with what the arguments are. -/
namespace Go.PM
theorem TC.vt {f : Nat} {args : List VV} {r : VV} (h : TC f args r) (hraw : raws.contains f = false) (hp : pureL args = true) : VT f args r := by
  have h1 := h 0 [] fun x _ => x = r
  unfold vcallP at h1
  simp only [hraw, hp, Bool.false_eq_true, if_false, if_true] at h1
  have h2 : tstep f args fun x => x = r := by rw [h1]; trivial
  unfold tstep tk at h2
  split at h2
  · rename_i x hx
    rw [← h2]
    exact (vT_spec hx).2.2
  · exact h2.elim
theorem TC.yes {f : Nat} {args : List VV} {pargs : List Value} {H : Heap} (h : TC f args (.sc (.bool true))) (hraw : raws.contains f = false) (hp : pureL args = true) (hl : VL (bare (· < H.length) H) args pargs) :
    ∃ v H', pmCall f pargs H.length H = some (v, H') ∧ v = .bool true := by
  obtain ⟨P', pv, h1, _, h2⟩ := h.vt hraw hp (· < H.length) H pargs H.length (fun _ h => h) hl (Nat.le_refl _)
  cases h2
  exact ⟨_, P', h1, rfl⟩
theorem VR.grow {H L : Heap} {x : VV} {v : Value} (h : VR (bare (· < H.length) H) x v) : VR (bare (· < (H ++ L).length) (H ++ L)) x v :=
  h.ofBare fun b hb => ⟨by show b < _; rw [List.length_append]; omega, List.getElem?_append_left hb⟩
theorem tree_of {α : Type} {enc : α → List Value} {f : α → VV} {esz n c : Nat} {H : Heap} {pa : Option Addr} {xs : List α} (hA : Arr enc esz H pa n xs) (hc : n ≤ c) (hf : ∀ x, vcells (f x) = (enc x).map .sc) (hs : ∀ x, (enc x).all isSc = true) (hlen : ∀ x, (enc x).length = esz)
    (hb : (pa = none ∧ xs = [] ∧ n = 0 ∧ c = 0) ∨ ∃ b r p, pa = some ⟨b, 0, none⟩ ∧ H[b]? = some (.row r esz p) ∧ n * esz ≤ r.length ∧ r.take (n * esz) = xs.flatMap enc) : VR (bare (· < H.length) H) (listV f xs) (.slice pa n c) := by
  rcases hb with ⟨rfl, rfl, rfl, rfl⟩ | ⟨b, r, p, rfl, h1, h2, h3⟩
  · exact .tnil _ (.inl rfl)
  · have hn := hA.len
    subst hn
    have hl : xs.length = (xs.map f).length := by simp
    have key : VL (bare (· < H.length) H) ((xs.map f).flatMap vcells) (xs.flatMap enc) := by
      clear h3 h2 hl hc hA
      induction xs with
      | nil => exact .nil
      | cons x xs ih =>
        simp only [List.map_cons, List.flatMap_cons, hf]
        have hx := hs x
        revert hx
        generalize enc x = cs
        intro hx
        induction cs with
        | nil => exact ih
        | cons v vs ih2 =>
          simp only [List.all_cons, Bool.and_eq_true] at hx
          exact .cons _ _ _ _ (.sc v hx.1) (ih2 hx.2)
    have := VR.tree (V := bare (· < H.length) H) (xs.map f) .op b 0 c r esz p (by show b < _; exact (List.getElem?_eq_some_iff.1 h1).1) h1 (by rw [← hl]; omega) (by rw [← hl]; exact hc) (fun y hy => by
      obtain ⟨x, _, rfl⟩ := List.mem_map.1 hy
      rw [hf, List.length_map, hlen]) trivial (by rw [← hl, List.drop_zero, h3]; exact key)
    rw [← hl] at this
    exact this
end Go.PM

/- Who starts when: plain words, and what is the same of both. -/
namespace Go.PM
def atC (cs : List Cust) (i : Nat) : Int := ((cs[i]?).map (·.t)).getD 0
def wkC (cs : List Cust) (i : Nat) : Int := ((cs[i]?).map (·.w)).getD 0
def klC (cs : List Cust) (i : Nat) : Int := ((cs[i]?).map (·.k)).getD 0
def stC (st : List Int) (i : Nat) : Int := (st[i]?).getD 0
theorem atC_of {cs : List Cust} {i : Nat} {x : Cust} (h : cs[i]? = some x) : atC cs i = x.t := by simp [atC, h]
theorem wkC_of {cs : List Cust} {i : Nat} {x : Cust} (h : cs[i]? = some x) : wkC cs i = x.w := by simp [wkC, h]
theorem klC_of {cs : List Cust} {i : Nat} {x : Cust} (h : cs[i]? = some x) : klC cs i = x.k := by simp [klC, h]
theorem stC_of {st : List Int} {i : Nat} {x : Int} (h : st[i]? = some x) : stC st i = x := by simp [stC, h]
def inS (cs : List Cust) (st : List Int) (t : Int) (i : Nat) : Bool := decide (0 ≤ stC st i) && decide (stC st i ≤ t) && decide (t < stC st i + wkC cs i)
def bz (cs : List Cust) (st : List Int) (t : Int) : Nat := (List.range cs.length).countP (inS cs st t)
def isW (cs : List Cust) (st : List Int) (t : Int) (i : Nat) : Bool := decide (stC st i < 0) && decide (atC cs i ≤ t)
def wt (cs : List Cust) (st : List Int) (t : Int) : List Nat := (List.range cs.length).filter (isW cs st t)
def befo (rule : Int) (cs : List Cust) (i k : Nat) : Bool :=
  if rule = 1 then true else if rule = 2 then decide (wkC cs i < wkC cs k) else if rule = 3 then decide (klC cs i < klC cs k) else false
def pickW (rule : Int) (cs : List Cust) (b : Option Nat) (i : Nat) : Option Nat := match b with
  | none => some i
  | some k => if befo rule cs i k then some i else some k
def nxt (rule : Int) (cs : List Cust) (st : List Int) (t : Int) : Option Nat := (wt cs st t).foldl (pickW rule cs) none
def fill (rule srv : Int) (cs : List Cust) (t : Int) : Nat → List Int → List Int
  | 0, st => st
  | n + 1, st => if (bz cs st t : Int) < srv then (match nxt rule cs st t with
    | none => st
    | some k => fill rule srv cs t n (st.set k t)) else st
def full (rule srv : Int) (cs : List Cust) (st : List Int) (t : Int) : Prop := srv ≤ (bz cs st t : Int) ∨ nxt rule cs st t = none
def runT (rule srv : Int) (cs : List Cust) : Int → Nat → List Int → List Int
  | _, 0, st => st
  | t, n + 1, st => runT rule srv cs (t + 1) n (fill rule srv cs t cs.length st)
def stL (rule srv : Int) (cs : List Cust) : List Int := runT rule srv cs 0 100000 (List.replicate cs.length (-1))
section
variable {rule srv : Int} {cs : List Cust} {st : List Int} {t : Int}
theorem fill_full (h : full rule srv cs st t) (n : Nat) : fill rule srv cs t n st = st := by
  cases n with
  | zero => rfl
  | succ n =>
    rw [fill]
    rcases h with h | h
    · rw [if_neg (by omega)]
    · split
      · rw [h]
      · rfl
theorem runT_skip (m : Nat) : ∀ (t : Int) (n : Nat), (∀ u, t ≤ u → u < t + m → full rule srv cs st u) → m ≤ n → runT rule srv cs t n st = runT rule srv cs (t + m) (n - m) st := by
  induction m with
  | zero => intro t n _ _; simp
  | succ m ih =>
    intro t n h hm
    obtain ⟨n, rfl⟩ : ∃ k, n = k + 1 := ⟨n - 1, by omega⟩
    rw [runT, fill_full (h t (Int.le_refl _) (by omega)), ih (t + 1) n (fun u h1 h2 => h u (by omega) (by omega)) (by omega)]
    congr 1
    · omega
    · omega
theorem runT_full (n : Nat) : ∀ (t : Int), (∀ u, t ≤ u → full rule srv cs st u) → runT rule srv cs t n st = st := by
  intro t h
  rw [runT_skip n t n (fun u h1 _ => h u h1) (Nat.le_refl _), Nat.sub_self]
  rfl
theorem runT_to {a b : Int} (ha : 0 ≤ a) (hab : a ≤ b) (hb : b ≤ 100000) (h : ∀ u, a ≤ u → u < b → full rule srv cs st u) : runT rule srv cs a (100000 - a).toNat st = runT rule srv cs b (100000 - b).toNat st := by
  rw [runT_skip (b - a).toNat a _ (fun u h1 h2 => h u h1 (by omega)) (by omega)]
  congr 1
  · omega
  · omega
theorem runT_one {a : Int} (ha : 0 ≤ a) (hb : a < 100000) : runT rule srv cs a (100000 - a).toNat st = runT rule srv cs (a + 1) (100000 - (a + 1)).toNat (fill rule srv cs a cs.length st) := by
  rw [show (100000 - a).toNat = (100000 - (a + 1)).toNat + 1 by omega, runT]
theorem pick_some {ws : List Nat} {k : Nat} : ∃ j, (ws.foldl (pickW rule cs) (some k)) = some j ∧ (j = k ∨ j ∈ ws) := by
  induction ws generalizing k with
  | nil => exact ⟨k, rfl, .inl rfl⟩
  | cons i ws ih =>
    rw [List.foldl_cons]
    have : ∃ q, pickW rule cs (some k) i = some q ∧ (q = k ∨ q = i) := by
      unfold pickW
      simp only
      split
      · exact ⟨i, rfl, .inr rfl⟩
      · exact ⟨k, rfl, .inl rfl⟩
    obtain ⟨q, hq, hqq⟩ := this
    rw [hq]
    obtain ⟨j, h1, h2⟩ := ih (k := q)
    refine ⟨j, h1, ?_⟩
    rcases h2 with rfl | h2
    · rcases hqq with rfl | rfl
      · exact .inl rfl
      · exact .inr List.mem_cons_self
    · exact .inr (List.mem_cons_of_mem _ h2)
theorem nxt_none : nxt rule cs st t = none ↔ wt cs st t = [] := by
  unfold nxt
  cases h : wt cs st t with
  | nil => exact ⟨fun _ => rfl, fun _ => rfl⟩
  | cons i ws =>
    refine ⟨fun h2 => ?_, fun h2 => (by cases h2)⟩
    rw [List.foldl_cons] at h2
    obtain ⟨j, h3, _⟩ := pick_some (rule := rule) (cs := cs) (ws := ws) (k := i)
    rw [show pickW rule cs none i = some i from rfl, h3] at h2
    cases h2
theorem nxt_mem {k : Nat} (h : nxt rule cs st t = some k) : k ∈ wt cs st t := by
  unfold nxt at h
  cases hw : wt cs st t with
  | nil => rw [hw] at h; cases h
  | cons i ws =>
    rw [hw, List.foldl_cons] at h
    obtain ⟨j, h3, h4⟩ := pick_some (rule := rule) (cs := cs) (ws := ws) (k := i)
    rw [show pickW rule cs none i = some i from rfl, h3] at h
    injection h with h
    subst h
    rcases h4 with rfl | h4
    · exact List.mem_cons_self
    · exact List.mem_cons_of_mem _ h4
theorem wt_mem {k : Nat} : k ∈ wt cs st t ↔ k < cs.length ∧ stC st k < 0 ∧ atC cs k ≤ t := by
  simp [wt, isW]
theorem wt_nodup : (wt cs st t).Nodup := List.Pairwise.filter _ List.nodup_range
/-! ### one starts -/
theorem stC_set {k i : Nat} (hk : k < st.length) : stC (st.set k t) i = if i = k then t else stC st i := by
  unfold stC
  rw [List.getElem?_set]
  by_cases h : i = k
  · subst h
    simp [hk]
  · rw [if_neg (fun h' => h h'.symm), if_neg h]
theorem countP_point {p q : Nat → Bool} {k : Nat} (hp : p k = false) (h : ∀ i, i ≠ k → q i = p i) : ∀ n, (List.range n).countP q = (List.range n).countP p + if k < n ∧ q k = true then 1 else 0 := by
  intro n
  induction n with
  | zero => simp
  | succ n ih =>
    rw [List.range_succ, List.countP_append, List.countP_append, ih]
    by_cases hk : n = k
    · subst hk
      simp only [List.countP_singleton, hp]
      cases hq : q n <;> simp
    · rw [List.countP_singleton, List.countP_singleton, h n hk]
      have : (k < n + 1 ∧ q k = true) ↔ (k < n ∧ q k = true) := by
        constructor
        · rintro ⟨h1, h2⟩; exact ⟨by omega, h2⟩
        · rintro ⟨h1, h2⟩; exact ⟨by omega, h2⟩
      simp only [this]
      omega
theorem bz_set {k : Nat} {u : Int} (hk : k < cs.length) (hl : st.length = cs.length) (hs : stC st k < 0) (h0 : 0 ≤ t) : bz cs (st.set k t) u = bz cs st u + if t ≤ u ∧ u < t + wkC cs k then 1 else 0 := by
  unfold bz
  rw [countP_point (p := inS cs st u) (q := inS cs (st.set k t) u) (k := k)]
  · congr 1
    have : (k < cs.length ∧ inS cs (st.set k t) u k = true) ↔ (t ≤ u ∧ u < t + wkC cs k) := by
      simp only [inS, stC_set (t := t) (i := k) (by omega : k < st.length), if_true, Bool.and_eq_true, decide_eq_true_eq]
      constructor
      · rintro ⟨_, ⟨_, h1⟩, h2⟩; exact ⟨h1, h2⟩
      · rintro ⟨h1, h2⟩; exact ⟨hk, ⟨h0, h1⟩, h2⟩
    simp only [this]
  · simp only [inS]
    rw [decide_eq_false (by omega)]
    rfl
  · intro i hi
    simp only [inS, stC_set (t := t) (i := i) (by omega : k < st.length), if_neg hi]
theorem wt_set {k : Nat} {u : Int} (hl : st.length = cs.length) (hk : k < cs.length) (h0 : 0 ≤ t) : wt cs (st.set k t) u = (wt cs st u).filter (· != k) := by
  unfold wt
  rw [List.filter_filter]
  refine List.filter_congr fun i hi => ?_
  simp only [isW, stC_set (t := t) (i := i) (by omega : k < st.length)]
  by_cases h : i = k
  · subst h
    simp
    omega
  · simp [h]
def unst (st : List Int) : Nat := st.countP (fun s => decide (s < 0))
theorem unst_set {k : Nat} (hk : k < st.length) (hs : stC st k < 0) (h0 : 0 ≤ t) : unst (st.set k t) + 1 = unst st := by
  unfold unst
  rw [List.countP_set hk]
  have hx : st[k] = stC st k := by
    rw [stC_of (x := st[k]) (List.getElem?_eq_getElem hk)]
  have h1 : decide (st[k] < 0) = true := by rw [hx]; exact decide_eq_true hs
  have h2 : decide (t < 0) = false := decide_eq_false (by omega)
  have h3 : 0 < st.countP (fun s => decide (s < 0)) := by
    rw [List.countP_pos_iff]
    exact ⟨st[k], List.getElem_mem hk, h1⟩
  simp only [h1, h2, if_true, Bool.false_eq_true, if_false]
  omega
theorem fill_more (hl : st.length = cs.length) (h0 : 0 ≤ t) : ∀ (n m : Nat), unst st ≤ n → unst st ≤ m → fill rule srv cs t n st = fill rule srv cs t m st := by
  intro n
  induction n generalizing st with
  | zero =>
    intro m hn hm
    have hf : full rule srv cs st t := by
      right
      rw [nxt_none]
      cases hw : wt cs st t with
      | nil => rfl
      | cons i ws =>
        have h1 : i ∈ wt cs st t := by rw [hw]; exact List.mem_cons_self
        obtain ⟨h2, h3, _⟩ := wt_mem.1 h1
        have := unst_set (t := t) (by omega : i < st.length) h3 h0
        omega
    rw [fill_full hf, fill_full hf]
  | succ n ih =>
    intro m hn hm
    cases m with
    | zero =>
      have hf : full rule srv cs st t := by
        right
        rw [nxt_none]
        cases hw : wt cs st t with
        | nil => rfl
        | cons i ws =>
          have h1 : i ∈ wt cs st t := by rw [hw]; exact List.mem_cons_self
          obtain ⟨h2, h3, _⟩ := wt_mem.1 h1
          have := unst_set (t := t) (by omega : i < st.length) h3 h0
          omega
      rw [fill_full hf, fill_full hf]
    | succ m =>
      rw [fill, fill]
      split
      · split
        · rfl
        · rename_i k hk
          obtain ⟨h2, h3, _⟩ := wt_mem.1 (nxt_mem hk)
          have := unst_set (t := t) (by omega : k < st.length) h3 h0
          exact ih (by simp [hl]) m (by omega) (by omega)
      · rfl
theorem unst_le : unst st ≤ st.length := List.countP_le_length
theorem fill_step {k : Nat} (hl : st.length = cs.length) (h0 : 0 ≤ t) (hb : (bz cs st t : Int) < srv) (hk : nxt rule cs st t = some k) : fill rule srv cs t cs.length (st.set k t) = fill rule srv cs t cs.length st := by
  obtain ⟨h2, h3, _⟩ := wt_mem.1 (nxt_mem hk)
  have h4 := unst_set (t := t) (by omega : k < st.length) h3 h0
  have h5 := unst_le (st := st)
  rw [fill_more (st := st) hl h0 cs.length (cs.length + 1) (by omega) (by omega)]
  conv => rhs; rw [fill, if_pos hb, hk]
/-! ### the next tick at which somebody comes or leaves -/
def evT (cs : List Cust) (st : List Int) (i : Nat) : Int := if 0 ≤ stC st i then stC st i + wkC cs i else atC cs i
def laterF (cs : List Cust) (st : List Int) (t : Int) (b : Int) (i : Nat) : Int := if t < evT cs st i ∧ (b < 0 ∨ evT cs st i < b) then evT cs st i else b
def later (cs : List Cust) (st : List Int) (t : Int) : Int := (List.range cs.length).foldl (laterF cs st t) (-1)
structure Way (cs : List Cust) (st : List Int) (t : Int) : Prop where
  len : st.length = cs.length
  low : ∀ i, i < cs.length → -1 ≤ stC st i
  high : ∀ i, i < cs.length → stC st i ≤ t
  bd : ∀ i, i < cs.length → stC st i + 1000 * (unst st : Int) ≤ 10000 + 1000 * (cs.length : Int)
  tm : 0 ≤ t ∧ t + 1000 * (unst st : Int) ≤ 11000 + 1000 * (cs.length : Int)
theorem Way.set {k : Nat} (h : Way cs st t) (hk : k < cs.length) (hs : stC st k < 0) : Way cs (st.set k t) t := by
  have hl := h.len
  have htm := h.tm
  have h4 := unst_set (t := t) (by omega : k < st.length) hs htm.1
  refine ⟨by simp [hl], fun i hi => ?_, fun i hi => ?_, fun i hi => ?_, htm.1, by omega⟩
  all_goals rw [stC_set (by omega : k < st.length)]
  · have := h.low i hi
    split <;> omega
  · have := h.high i hi
    split <;> omega
  · have := h.bd i hi
    split <;> omega
theorem Way.le (h : Way cs st t) (hc : custsOk cs) : t ≤ 35000 ∧ ∀ i, i < cs.length → stC st i ≤ 34000 := by
  have hlen := hc.2
  have htm := h.tm
  refine ⟨by omega, fun i hi => ?_⟩
  have := h.bd i hi
  omega
theorem custsOk.bnd (hc : custsOk cs) {i : Nat} (hi : i < cs.length) : (0 ≤ atC cs i ∧ atC cs i ≤ 10000) ∧ (1 ≤ wkC cs i ∧ wkC cs i ≤ 1000) := by
  have hx : cs[i]? = some cs[i] := List.getElem?_eq_getElem hi
  have := hc.at hx
  rw [atC_of hx, wkC_of hx]
  exact ⟨this.1, this.2.1⟩
/-! ### the one who starts, by places -/
def nextP (rule : Int) (cs : List Cust) (ws : List Nat) : Nat :=
  if rule = 1 then ws.length - 1 else if rule = 2 ∨ rule = 3 then (List.range ws.length).foldl (fun b k => if befo rule cs (ws.getD k 0) (ws.getD b 0) then k else b) 0 else 0
theorem pick_first {ws : List Nat} {k : Nat} (h : ∀ i j, befo rule cs i j = false) : ws.foldl (pickW rule cs) (some k) = some k := by
  induction ws with
  | nil => rfl
  | cons i ws ih =>
    rw [List.foldl_cons]
    have : pickW rule cs (some k) i = some k := by
      unfold pickW
      simp only [h]
      rfl
    rw [this, ih]
theorem nextP_is {ws : List Nat} (hne : ws ≠ []) (hr : 0 ≤ rule ∧ rule ≤ 3) : nextP rule cs ws < ws.length ∧ ws[nextP rule cs ws]? = ws.foldl (pickW rule cs) none := by
  have hlen : 0 < ws.length := List.length_pos_iff.2 hne
  unfold nextP
  by_cases h1 : rule = 1
  · rw [if_pos h1]
    rcases List.eq_nil_or_concat ws with rfl | ⟨xs, y, rfl⟩
    · exact absurd rfl hne
    · rw [List.concat_eq_append, List.foldl_append]
      refine ⟨by simp, ?_⟩
      simp only [List.length_append, List.length_cons, List.length_nil, Nat.zero_add, Nat.add_sub_cancel, List.foldl_cons, List.foldl_nil]
      rw [List.getElem?_append_right (Nat.le_refl _), Nat.sub_self]
      unfold pickW
      split
      · rfl
      · simp only [befo, if_pos h1, if_true]
        rfl
  · rw [if_neg h1]
    by_cases h2 : rule = 2 ∨ rule = 3
    · rw [if_pos h2]
      have hirr : ∀ i, befo rule cs i i = false := fun i => by
        unfold befo
        rw [if_neg h1]
        split
        · exact decide_eq_false (by omega)
        · split
          · exact decide_eq_false (by omega)
          · rfl
      have key : ∀ n, n < ws.length → (List.range (n + 1)).foldl (fun b k => if befo rule cs (ws.getD k 0) (ws.getD b 0) then k else b) 0 < ws.length ∧
          ws[(List.range (n + 1)).foldl (fun b k => if befo rule cs (ws.getD k 0) (ws.getD b 0) then k else b) 0]? = (ws.take (n + 1)).foldl (pickW rule cs) none := by
        intro n
        induction n with
        | zero =>
          intro _
          have : (List.range (0 + 1)).foldl (fun b k => if befo rule cs (ws.getD k 0) (ws.getD b 0) then k else b) 0 = 0 := by
            simp [List.range_succ, hirr]
          rw [this]
          refine ⟨hlen, ?_⟩
          cases ws with
          | nil => exact absurd rfl hne
          | cons i ws => rfl
        | succ n ih =>
          intro hn
          obtain ⟨g1, g2⟩ := ih (by omega)
          rw [List.range_succ, List.foldl_append, List.foldl_cons, List.foldl_nil]
          generalize (List.range (n + 1)).foldl (fun b k => if befo rule cs (ws.getD k 0) (ws.getD b 0) then k else b) 0 = b at *
          obtain ⟨x, hx⟩ : ∃ x, ws[n + 1]? = some x := ⟨_, List.getElem?_eq_getElem hn⟩
          obtain ⟨y, hy⟩ : ∃ y, ws[b]? = some y := ⟨_, List.getElem?_eq_getElem g1⟩
          rw [List.take_add_one, hx, List.foldl_append, ← g2, hy]
          simp only [Option.toList_some, List.foldl_cons, List.foldl_nil, List.getD_eq_getElem?_getD, hx, hy, Option.getD_some, pickW]
          split
          · exact ⟨hn, hx⟩
          · exact ⟨g1, hy⟩
      have := key (ws.length - 1) (by omega)
      rw [show ws.length - 1 + 1 = ws.length by omega, List.take_of_length_le (Nat.le_refl _)] at this
      exact this
    · rw [if_neg h2]
      refine ⟨hlen, ?_⟩
      have hb : ∀ i j, befo rule cs i j = false := fun i j => by
        unfold befo
        rw [if_neg h1, if_neg (by omega), if_neg (by omega)]
      cases ws with
      | nil => exact absurd rfl hne
      | cons i ws =>
        rw [List.foldl_cons, show pickW rule cs none i = some i from rfl, pick_first hb]
        rfl
end
end Go.PM

/- Who starts when: what holds of the program on its way, in plain words. -/
namespace Go.PM
def below0 (st : List Int) (i : Nat) : Bool := decide (stC st i < 0)
def gtB (u e : Int) : Bool := decide (u < e)
section
variable {rule srv : Int} {cs : List Cust} {st : List Int} {t : Int}
theorem custsOk.sorted (hc : custsOk cs) : ∀ {i j : Nat}, i ≤ j → j < cs.length → atC cs i ≤ atC cs j := by
  intro i j hij hj
  induction j with
  | zero =>
    have : i = 0 := by omega
    subst this
    exact Int.le_refl _
  | succ j ih =>
    rcases Nat.lt_or_ge i (j + 1) with h | h
    · have h1 := ih (by omega) (by omega)
      have hx : cs[j + 1]? = some cs[j + 1] := List.getElem?_eq_getElem hj
      have hy : cs[j]? = some cs[j] := List.getElem?_eq_getElem (by omega)
      have h2 := (hc.1 (j + 1) _ hx).2 _ (by omega) (by rw [Nat.add_sub_cancel]; exact hy)
      rw [atC_of hx]
      rw [atC_of hy] at h1
      omega
    · have : i = j + 1 := by omega
      subst this
      exact Int.le_refl _
theorem wt_come {come : Nat} (hcome : come ≤ cs.length) (past : ∀ i, i < come → atC cs i ≤ t) (fut : ∀ i, come ≤ i → i < cs.length → t < atC cs i) : wt cs st t = (List.range come).filter (below0 st) := by
  unfold wt
  rw [show cs.length = come + (cs.length - come) by omega, List.range_add, List.filter_append]
  have h1 : (List.range come).filter (isW cs st t) = (List.range come).filter (below0 st) := by
    refine List.filter_congr fun i hi => ?_
    rw [List.mem_range] at hi
    simp [isW, below0, past i hi]
  have h2 : ((List.range (cs.length - come)).map fun x => come + x).filter (isW cs st t) = [] := by
    rw [List.filter_eq_nil_iff]
    intro i hi
    obtain ⟨j, hj, rfl⟩ := List.mem_map.1 hi
    rw [List.mem_range] at hj
    have := fut (come + j) (by omega) (by omega)
    simp only [isW, Bool.and_eq_true, decide_eq_true_eq]
    omega
  rw [h1, h2, List.append_nil]
structure ImpI (rule srv : Int) (cs : List Cust) (st : List Int) (t : Int) (come : Nat) (ws : List Nat) (ends : List Int) : Prop where
  len : st.length = cs.length
  low : ∀ i, i < cs.length → -1 ≤ stC st i
  high : ∀ i, i < cs.length → stC st i ≤ t
  bd : ∀ i, i < cs.length → stC st i + 1000 * (unst st : Int) ≤ 10000 + 1000 * (cs.length : Int)
  tm : -1 ≤ t
  cle : come ≤ cs.length
  past : ∀ i, i < come → atC cs i ≤ t
  fut : ∀ i, come ≤ i → i < cs.length → t < atC cs i ∧ stC st i < 0
  wsq : ws = wt cs st t
  cnt : ∀ u, t ≤ u → ends.countP (gtB u) = bz cs st u
  ef : ∀ e ∈ ends, t < e
  eb : ∀ e ∈ ends, e + 1000 * (unst st : Int) ≤ 11000 + 1000 * (cs.length : Int)
  fl : full rule srv cs st t
  room : ws.length + ends.length ≤ come
  es : (ends.length : Int) ≤ srv
  run : runT rule srv cs (t + 1) (100000 - (t + 1)).toNat st = stL rule srv cs
theorem stC_rep {n i : Nat} (h : i < n) : stC (List.replicate n (-1)) i = -1 := stC_of (by rw [List.getElem?_replicate, if_pos h])
theorem ImpI.start (hc : custsOk cs) (hs : 1 ≤ srv) : ImpI rule srv cs (List.replicate cs.length (-1)) (-1) 0 [] [] := by
  have hw : wt cs (List.replicate cs.length (-1)) (-1) = [] := by
    rw [wt_come (Nat.zero_le _) (fun i hi => by omega) fun i _ hi => by have := hc.bnd hi; omega]
    rfl
  have hu : unst (List.replicate cs.length (-1)) = cs.length := by simp [unst, List.countP_replicate]
  refine ⟨by simp, fun i hi => by rw [stC_rep hi]; decide, fun i hi => by rw [stC_rep hi]; decide, fun i hi => by rw [stC_rep hi, hu]; omega, by decide, Nat.zero_le _, fun i hi => by omega, fun i _ hi => ⟨by have := hc.bnd hi; omega, by rw [stC_rep hi]; decide⟩, hw.symm, fun u _ => ?_, fun e he => (by cases he), fun e he => (by cases he), .inr (nxt_none.2 hw), Nat.le_refl _, by simp; omega, rfl⟩
  unfold bz
  rw [(List.countP_eq_zero (p := inS cs (List.replicate cs.length (-1)) u)).2]
  · rfl
  · intro i hi
    rw [List.mem_range] at hi
    simp only [inS, stC_rep hi, Bool.and_eq_true, decide_eq_true_eq]
    omega
/-! ### the next tick -/
def mnF (w : Bool) (b e : Int) : Int := if b < 0 ∨ (w = true ∧ e < b) then e else b
theorem mn_off {es : List Int} {b : Int} (h : 0 ≤ b) : es.foldl (mnF false) b = b := by
  induction es with
  | nil => rfl
  | cons e es ih =>
    rw [List.foldl_cons]
    have : mnF false b e = b := by
      unfold mnF
      rw [if_neg (by simp; omega)]
    rw [this, ih]
theorem mn_on : ∀ {es : List Int} {b : Int}, (∀ e ∈ es, 0 ≤ e) → (es.foldl (mnF true) b = b ∨ es.foldl (mnF true) b ∈ es) ∧ (∀ e ∈ es, es.foldl (mnF true) b ≤ e) ∧ (0 ≤ b → es.foldl (mnF true) b ≤ b) ∧ (es ≠ [] → 0 ≤ es.foldl (mnF true) b)
  | [], b, _ => ⟨.inl rfl, fun e he => (by cases he), fun _ => Int.le_refl _, fun h => absurd rfl h⟩
  | e :: es, b, h => by
    rw [List.foldl_cons]
    have h1 := h e List.mem_cons_self
    have h2 : ∀ e' ∈ es, 0 ≤ e' := fun e' he => h e' (List.mem_cons_of_mem _ he)
    have hm : (mnF true b e = b ∨ mnF true b e = e) ∧ mnF true b e ≤ e ∧ (0 ≤ b → mnF true b e ≤ b) ∧ 0 ≤ mnF true b e := by
      unfold mnF
      by_cases hc : b < 0 ∨ (true = true ∧ e < b)
      · rw [if_pos hc]
        refine ⟨.inr rfl, Int.le_refl _, fun hb => ?_, h1⟩
        rcases hc with hc | hc <;> omega
      · rw [if_neg hc]
        simp at hc
        exact ⟨.inl rfl, hc.2, fun _ => Int.le_refl _, hc.1⟩
    obtain ⟨m1, m2, m3, m4⟩ := hm
    obtain ⟨g1, g2, g3, g4⟩ := mn_on (es := es) (b := mnF true b e) h2
    have g3 := g3 m4
    refine ⟨?_, ?_, fun hb => by have := m3 hb; omega, fun _ => ?_⟩
    · rcases g1 with g1 | g1
      · rw [g1]
        rcases m1 with m1 | m1
        · exact .inl m1
        · rw [m1]; exact .inr List.mem_cons_self
      · exact .inr (List.mem_cons_of_mem _ g1)
    · intro e' he
      rcases List.mem_cons.1 he with rfl | he
      · omega
      · exact g2 e' he
    · rcases g1 with g1 | g1
      · rw [g1]; exact m4
      · exact h2 _ g1
def now0 (cs : List Cust) (come : Nat) : Int := if come < cs.length then atC cs come else -1
def nowN (cs : List Cust) (come : Nat) (ws : List Nat) (ends : List Int) : Int := ends.foldl (mnF (decide (0 < ws.length))) (now0 cs come)
theorem ImpI.cntAll {come : Nat} {ws : List Nat} {ends : List Int} (h : ImpI rule srv cs st t come ws ends) : ends.length = bz cs st t := by
  rw [← h.cnt t (Int.le_refl _), List.countP_eq_length.2]
  intro e he
  exact decide_eq_true (h.ef e he)
theorem ImpI.time {come : Nat} {ws : List Nat} {ends : List Int} (h : ImpI rule srv cs st t come ws ends) (hc : custsOk cs) (hs : 1 ≤ srv) (hg : come < cs.length ∨ 0 < ws.length) :
    (t < nowN cs come ws ends ∧ nowN cs come ws ends + 1000 * (unst st : Int) ≤ 11000 + 1000 * (cs.length : Int)) ∧ (∀ i, come ≤ i → i < cs.length → nowN cs come ws ends ≤ atC cs i) ∧
      (come < cs.length ∧ atC cs come = nowN cs come ws ends ∨ 0 < ws.length ∧ nowN cs come ws ends ∈ ends) ∧ runT rule srv cs (nowN cs come ws ends) (100000 - nowN cs come ws ends).toNat st = stL rule srv cs := by
  have htm := h.tm
  have hul := unst_le (st := st)
  have hlen := h.len
  have he0 : ∀ e ∈ ends, 0 ≤ e := fun e he => by have := h.ef e he; omega
  have hlen24 := hc.2
  by_cases hw : 0 < ws.length
  · have hbz : srv ≤ (bz cs st t : Int) := by
      rcases h.fl with hf | hf
      · exact hf
      · rw [nxt_none, ← h.wsq] at hf
        rw [hf] at hw
        simp at hw
    have hne : ends ≠ [] := by
      intro he
      have := h.cntAll
      rw [he] at this
      simp at this
      omega
    obtain ⟨g1, g2, g3, g4⟩ := mn_on (es := ends) (b := now0 cs come) he0
    have hnow : nowN cs come ws ends = ends.foldl (mnF true) (now0 cs come) := by unfold nowN; rw [decide_eq_true hw]
    rw [hnow]
    generalize ends.foldl (mnF true) (now0 cs come) = w at *
    have g4 := g4 hne
    have hcase : (come < cs.length ∧ atC cs come = w) ∨ w ∈ ends := by
      rcases g1 with g1 | g1
      · unfold now0 at g1
        split at g1
        · rename_i hcl
          exact .inl ⟨hcl, g1.symm⟩
        · omega
      · exact .inr g1
    have htw : t < w ∧ w + 1000 * (unst st : Int) ≤ 11000 + 1000 * (cs.length : Int) := by
      rcases hcase with ⟨h1, h2⟩ | h1
      · have := h.fut come (Nat.le_refl _) h1
        have := hc.bnd h1
        omega
      · exact ⟨h.ef _ h1, h.eb _ h1⟩
    refine ⟨htw, fun i h1 h2 => ?_, hcase.imp id fun h1 => ⟨hw, h1⟩, ?_⟩
    · have h3 := hc.sorted h1 h2
      have h4 := hc.bnd (i := come) (by omega)
      have h5 : now0 cs come = atC cs come := by unfold now0; rw [if_pos (by omega)]
      have := g3 (by rw [h5]; omega)
      omega
    · rw [← h.run]
      refine (runT_to (by omega) (by omega) (by omega) fun u h1 h2 => .inl ?_).symm
      rw [← h.cnt u (by omega), (List.countP_eq_length (p := gtB u)).2 fun e he => decide_eq_true (by have := g2 e he; omega), h.cntAll]
      exact hbz
  · have hcl : come < cs.length := by omega
    have h5 : now0 cs come = atC cs come := by unfold now0; rw [if_pos hcl]
    have h4 := hc.bnd hcl
    have hf := (h.fut come (Nat.le_refl _) hcl).1
    have hnow : nowN cs come ws ends = atC cs come := by unfold nowN; rw [decide_eq_false hw, mn_off (by rw [h5]; omega), h5]
    rw [hnow]
    refine ⟨⟨hf, by omega⟩, fun i h1 h2 => hc.sorted h1 h2, .inl ⟨hcl, rfl⟩, ?_⟩
    rw [← h.run]
    refine (runT_to (by omega) (by omega) (by omega) fun u h1 h2 => .inr ?_).symm
    rw [nxt_none, wt_come h.cle (fun i hi => by have := h.past i hi; omega) fun i h3 h4 => by have := hc.sorted h3 h4; omega]
    have e1 := wt_come (st := st) h.cle h.past fun i h3 h4 => (h.fut i h3 h4).1
    rw [← e1, ← h.wsq]
    exact List.eq_nil_of_length_eq_zero (by omega)
theorem ImpI.done {come : Nat} {ws : List Nat} {ends : List Int} (h : ImpI rule srv cs st t come ws ends) (hcome : ¬ come < cs.length) (hw : ¬ 0 < ws.length) : st = stL rule srv cs := by
  rw [← h.run]
  refine (runT_full _ _ fun u hu => .inr ?_).symm
  have hcl := h.cle
  have e1 := wt_come (st := st) h.cle h.past fun i h3 h4 => (h.fut i h3 h4).1
  rw [nxt_none, wt_come h.cle (fun i hi => by have := h.past i hi; omega) fun i h3 h4 => by omega, ← e1, ← h.wsq]
  exact List.eq_nil_of_length_eq_zero (by omega)
/-! ### those who start at a tick -/
structure Ph4 (rule srv : Int) (cs : List Cust) (st0 : List Int) (now : Int) (come tot : Nat) (st : List Int) (ws : List Nat) (ends : List Int) : Prop where
  way : Way cs st now
  wsq : ws = wt cs st now
  cnt : ∀ u, now ≤ u → ends.countP (gtB u) = bz cs st u
  ef : ∀ e ∈ ends, now < e
  eb : ∀ e ∈ ends, e + 1000 * (unst st : Int) ≤ 11000 + 1000 * (cs.length : Int)
  fl : fill rule srv cs now cs.length st = fill rule srv cs now cs.length st0
  past : ∀ i, i < come → atC cs i ≤ now
  fut : ∀ i, come ≤ i → i < cs.length → now < atC cs i ∧ stC st i < 0
  tot : ws.length + ends.length = tot
  es : (ends.length : Int) ≤ srv
theorem eraseIdx_filter : ∀ {l : List Nat} {i k : Nat}, l.Nodup → l[i]? = some k → l.eraseIdx i = l.filter (· != k)
  | [], _, _, _, h => by cases h
  | x :: l, 0, k, hn, h => by
    injection h with h
    subst h
    rw [List.nodup_cons] at hn
    rw [List.eraseIdx_cons_zero, List.filter_cons_of_neg (by simp), List.filter_eq_self.2]
    intro y hy
    have : y ≠ x := fun he => hn.1 (he ▸ hy)
    simpa using this
  | x :: l, i + 1, k, hn, h => by
    rw [List.nodup_cons] at hn
    rw [List.getElem?_cons_succ] at h
    have hx : x ≠ k := fun he => hn.1 (he ▸ List.mem_of_getElem? h)
    rw [List.eraseIdx_cons_succ, List.filter_cons_of_pos (by simpa using hx), eraseIdx_filter hn.2 h]
theorem Ph4.step {now : Int} {st0 : List Int} {come tot : Nat} {ws : List Nat} {ends : List Int} (h : Ph4 rule srv cs st0 now come tot st ws ends) (hc : custsOk cs) (hr : 0 ≤ rule ∧ rule ≤ 3) (hb : (ends.length : Int) < srv) (hne : 0 < ws.length) :
    ∃ k, ws[nextP rule cs ws]? = some k ∧ k < cs.length ∧ nextP rule cs ws < ws.length ∧ (0 ≤ now ∧ now ≤ 35000) ∧ Ph4 rule srv cs st0 now come tot (st.set k now) (ws.eraseIdx (nextP rule cs ws)) (ends ++ [now + wkC cs k]) := by
  have hne' : ws ≠ [] := fun he => by rw [he] at hne; simp at hne
  obtain ⟨g1, g2⟩ := nextP_is (cs := cs) hne' hr
  obtain ⟨k, hk⟩ : ∃ k, ws[nextP rule cs ws]? = some k := ⟨_, List.getElem?_eq_getElem g1⟩
  have hnx : nxt rule cs st now = some k := by
    unfold nxt
    rw [← h.wsq, ← g2, hk]
  obtain ⟨m1, m2, m3⟩ := wt_mem.1 (nxt_mem hnx)
  have htm := h.way.tm
  have hle := (h.way.le hc).1
  have hbz : (bz cs st now : Int) = ends.length := by
    rw [← h.cnt now (Int.le_refl _), (List.countP_eq_length (p := gtB now)).2 fun e he => decide_eq_true (h.ef e he)]
  have hsl : k < st.length := by rw [h.way.len]; exact m1
  have hus := unst_set (t := now) hsl m2 htm.1
  have hwk := (hc.bnd m1).2
  refine ⟨k, hk, m1, g1, ⟨htm.1, hle⟩, h.way.set m1 m2, ?_, ?_, ?_, ?_, ?_, h.past, ?_, ?_, ?_⟩
  · rw [wt_set h.way.len m1 htm.1, ← h.wsq]
    exact eraseIdx_filter (by rw [h.wsq]; exact wt_nodup) hk
  · intro u hu
    rw [List.countP_append, h.cnt u hu, bz_set m1 h.way.len m2 htm.1, List.countP_singleton]
    congr 1
    simp only [gtB, decide_eq_true_eq]
    by_cases hq : u < now + wkC cs k
    · rw [if_pos hq, if_pos ⟨hu, hq⟩]
    · rw [if_neg hq, if_neg fun h' => hq h'.2]
  · intro e he
    rcases List.mem_append.1 he with he | he
    · exact h.ef e he
    · rw [List.mem_singleton] at he
      omega
  · intro e he
    rcases List.mem_append.1 he with he | he
    · have := h.eb e he
      omega
    · rw [List.mem_singleton] at he
      omega
  · rw [fill_step h.way.len htm.1 (by rw [hbz]; exact hb) hnx, h.fl]
  · intro i h1 h2
    have h3 := h.fut i h1 h2
    refine ⟨h3.1, ?_⟩
    rw [stC_set hsl, if_neg (fun he => by subst he; omega)]
    exact h3.2
  · rw [List.length_eraseIdx_of_lt g1, List.length_append, List.length_cons, List.length_nil]
    have := h.tot
    omega
  · rw [List.length_append, List.length_cons, List.length_nil]
    omega
theorem Ph4.done {now : Int} {st0 : List Int} {come tot : Nat} {ws : List Nat} {ends : List Int} (h : Ph4 rule srv cs st0 now come tot st ws ends) (hc : custsOk cs) (hcl : come ≤ cs.length) (ht : tot ≤ come) (hf : srv ≤ (ends.length : Int) ∨ ws = [])
    (hr : runT rule srv cs now (100000 - now).toNat st0 = stL rule srv cs) : ImpI rule srv cs st now come ws ends := by
  have htm := h.way.tm
  have hle := (h.way.le hc).1
  have hbz : (bz cs st now : Int) = ends.length := by
    rw [← h.cnt now (Int.le_refl _), (List.countP_eq_length (p := gtB now)).2 fun e he => decide_eq_true (h.ef e he)]
  have hfull : full rule srv cs st now := by
    rcases hf with hf | hf
    · exact .inl (by rw [hbz]; exact hf)
    · exact .inr (nxt_none.2 (by rw [← h.wsq]; exact hf))
  refine ⟨h.way.len, h.way.low, h.way.high, h.way.bd, by omega, hcl, h.past, h.fut, h.wsq, h.cnt, h.ef, h.eb, hfull, by rw [h.tot]; exact ht, h.es, ?_⟩
  have h1 := fill_full hfull cs.length
  rw [h.fl] at h1
  rw [runT_one htm.1 (by omega), h1] at hr
  exact hr
theorem ImpI.ph4 {come come2 : Nat} {now : Int} {ws : List Nat} {ends : List Int} (h : ImpI rule srv cs st t come ws ends) (hc : custsOk cs) (ht : t < now) (hn : now + 1000 * (unst st : Int) ≤ 11000 + 1000 * (cs.length : Int)) (h1 : come ≤ come2) (h2 : come2 ≤ cs.length)
    (h3 : ∀ i, come ≤ i → i < come2 → atC cs i = now) (h4 : ∀ i, come2 ≤ i → i < cs.length → now < atC cs i) :
    Ph4 rule srv cs st now come2 (((List.range come2).filter (below0 st)).length + (ends.filter (gtB now)).length) st ((List.range come2).filter (below0 st)) (ends.filter (gtB now)) := by
  have htm := h.tm
  have past : ∀ i, i < come2 → atC cs i ≤ now := fun i hi => by
    rcases Nat.lt_or_ge i come with hlt | hge
    · have := h.past i hlt
      omega
    · rw [h3 i hge hi]
      exact Int.le_refl _
  refine ⟨⟨h.len, h.low, fun i hi => by have := h.high i hi; omega, h.bd, by omega, hn⟩, ?_, ?_, ?_, ?_, rfl, past, ?_, rfl, ?_⟩
  · rw [wt_come h2 past h4]
  · intro u hu
    rw [List.countP_filter, ← h.cnt u (by omega)]
    refine List.countP_congr fun e he => ?_
    simp only [gtB, Bool.and_eq_true, decide_eq_true_eq]
    omega
  · intro e he
    have := (List.mem_filter.1 he).2
    simpa [gtB] using this
  · intro e he
    exact h.eb e (List.mem_filter.1 he).1
  · intro i h5 h6
    exact ⟨h4 i h5 h6, (h.fut i (by omega) h6).2⟩
  · have := List.length_filter_le (gtB now) ends
    have := h.es
    omega
end
end Go.PM

/- Who starts when: the small functions of both, walked. -/
namespace Go.PM
theorem math_bits_Mul64_one (n : Nat) (h : n < 4294967296) : TC 59 [VK .u64 1, VK .u64 (n : Int)] (.tup [VK .u64 0, VK .u64 (n : Int)]) := by
  refine TC.walk ⟨true, false⟩ math_bits_Mul64_t rfl (Nat.le_of_ble_eq_true rfl) rfl rfl ?_
  have a1 : pbin .and (.int .u64 1) (.int .u64 4294967295) = some (.int .u64 1) := and_u64 1 (by decide)
  have a2 : pbin .and (.int .u64 (n : Int)) (.int .u64 4294967295) = some (.int .u64 (n : Int)) := by rw [and_u64 n (by omega), Nat.mod_eq_of_lt h]
  have a0 : pbin .and (.int .u64 0) (.int .u64 4294967295) = some (.int .u64 0) := and_u64 0 (by decide)
  have s1 : pbin .shr (.int .u64 1) (.int .u64 32) = some (.int .u64 0) := shr_u64 1 .u64
  have s0 : pbin .shr (.int .u64 0) (.int .u64 32) = some (.int .u64 0) := shr_u64 0 .u64
  have s2 : pbin .shr (.int .u64 (n : Int)) (.int .u64 32) = some (.int .u64 0) := by rw [shr_u64 n .u64, Nat.div_eq_of_lt h]; rfl
  have w0 : IntKind.u64.wrap 0 = 0 := wrapU 0 (by decide)
  have wn : IntKind.u64.wrap (n : Int) = n := wrapU n (by omega)
  simp only [math_bits_Mul64, math_bits_Mul64_c, a0, a1, a2, s0, s1, s2, w0, wn, Int.one_mul, Int.zero_mul, Int.mul_zero, Int.add_zero, VX, Nat.reduceEqDiff, Nat.reduceAdd]
  exact fz_res rfl
theorem math_bits_Mul_one (n : Nat) (h : n < 4294967296) : TC 45 [VK .u64 1, VK .u64 (n : Int)] (.tup [VK .u64 0, VK .u64 (n : Int)]) := by
  refine TC.walk ⟨true, false⟩ math_bits_Mul_t rfl (Nat.le_of_ble_eq_true rfl) rfl rfl ?_
  simp only [math_bits_Mul, math_bits_Mul_c, math_bits_Mul64_one n h, VX, Nat.reduceEqDiff, Nat.reduceAdd]
  exact fz_res rfl
def nextF (rule : Int) (cs : List Cust) (ws : List Nat) (b k : Nat) : Nat := if befo rule cs (ws.getD k 0) (ws.getD b 0) then k else b
theorem nextF_lt {rule : Int} {cs : List Cust} {ws : List Nat} (hne : 0 < ws.length) : ∀ n, n ≤ ws.length → (List.range n).foldl (nextF rule cs ws) 0 < ws.length := by
  intro n
  induction n with
  | zero => intro _; exact hne
  | succ n ih =>
    intro hn
    rw [List.range_succ, List.foldl_append, List.foldl_cons, List.foldl_nil]
    have := ih (by omega)
    unfold nextF
    split
    · omega
    · exact this
set_option maxHeartbeats 1000000 in
theorem impl_next_loop (r : Int) (cs : List Cust) (ws : List Nat) (hr : r = 2 ∨ r = 3) (hws : ∀ i ∈ ws, i < cs.length) (hne : 0 < ws.length) (hn : ws.length ≤ 1000000) (ρ : VEnv) (g0 : ρ 0 = VI r) (g1 : ρ 1 = idsV ws) (g2 : ρ 2 = custsV cs) (g7 : ρ 7 = VI 0) (g21 : ρ 21 = idsV ws) (g22 : ρ 22 = VI ws.length) (g23 : ρ 23 = VI 0) :
    VW ⟨true, false⟩ 0 (.block 1 (.loop impl_next_b0)) (fun e ρ' H => e = .normal ∧ ρ' 7 = VI ((List.range ws.length).foldl (nextF r cs ws) 0 : Nat) ∧ H = []) ρ [] := by
  rw [VW_block]
  refine VW_loopT (fun (i : Nat) ρ H => i ≤ ws.length ∧ H = [] ∧ ρ 0 = VI r ∧ ρ 1 = idsV ws ∧ ρ 2 = custsV cs ∧ ρ 7 = VI ((List.range i).foldl (nextF r cs ws) 0 : Nat) ∧ ρ 21 = idsV ws ∧ ρ 22 = VI ws.length ∧ ρ 23 = VI i) (fun i => ws.length - i) 0 ⟨Nat.zero_le _, rfl, g0, g1, g2, g7, g21, g22, g23⟩ ?_
  clear g0 g1 g2 g7 g21 g22 g23 ρ
  rintro i ρ H ⟨hi, rfl, h0, h1, h2, h7, h21, h22, h23⟩
  by_cases hin : (i : Int) < (ws.length : Int)
  · have hil : i < ws.length := by omega
    have hbl := nextF_lt (rule := r) (cs := cs) hne i hi
    have hstep : (List.range (i + 1)).foldl (nextF r cs ws) 0 = nextF r cs ws ((List.range i).foldl (nextF r cs ws) 0) i := by rw [List.range_succ, List.foldl_append, List.foldl_cons, List.foldl_nil]
    generalize (List.range i).foldl (nextF r cs ws) 0 = b at *
    obtain ⟨u, hu⟩ : ∃ u, ws[i]? = some u := ⟨_, List.getElem?_eq_getElem hil⟩
    obtain ⟨v, hv⟩ : ∃ v, ws[b]? = some v := ⟨_, List.getElem?_eq_getElem hbl⟩
    obtain ⟨x, hx⟩ : ∃ x, cs[u]? = some x := ⟨_, List.getElem?_eq_getElem (hws u (List.mem_of_getElem? hu))⟩
    obtain ⟨y, hy⟩ : ∃ y, cs[v]? = some y := ⟨_, List.getElem?_eq_getElem (hws v (List.mem_of_getElem? hv))⟩
    have e1 := fun H => viaddr_map (f := kV) (t := .op) (H := H) (size := 1) (k := .i64) hu rfl
    have e2 := fun H => viaddr_map (f := kV) (t := .op) (H := H) (size := 1) (k := .i64) hv rfl
    have e3 := fun H => viaddr_map (f := cV) (t := .op) (H := H) (size := 3) (k := .i64) hx rfl
    have e4 := fun H => viaddr_map (f := cV) (t := .op) (H := H) (size := 3) (k := .i64) hy rfl
    have wi : IntKind.i64.wrap ((i : Int) + 1) = ((i + 1 : Nat) : Int) := wrapN (i + 1) (by omega) (by omega)
    have hF : nextF r cs ws b i = if befo r cs u v then i else b := by simp only [nextF, List.getD_eq_getElem?_getD, hu, hv, Option.getD_some]
    rcases hr with rfl | rfl
    · have hbe : befo 2 cs u v = decide (x.w < y.w) := by simp only [befo, wkC_of hx, wkC_of hy]; rfl
      by_cases q : x.w < y.w
      · rw [hF, hbe, decide_eq_true q, if_pos rfl] at hstep
        simp only [impl_next_b0, h0, h1, h2, h7, h21, h22, h23, hin, e1, e2, e3, e4, rd_cV, wi, q, Int.reduceEq, eq_self, cV, kV, VX, Nat.reduceEqDiff, Nat.reduceAdd, vload_pdef, vstore_pdef, viaddr_rdef, vlen_rdef, vfaddr_pdef, vchk_pdef, visnil_rdef, visnil_nil, visnil_cons, vrow_zero, vrow_succ, List.set_cons_zero, List.set_cons_succ, elemOf_one, elemOf_two, vresult, vresAll, vres1, vfill, isAny_sc, isAny_tree, isAny_ref, isAny_agg, isAny_clo, List.take_zero, List.take_succ_cons, List.take_nil, List.drop_zero, List.drop_succ_cons, List.drop_nil, List.append_nil, Nat.reduceLeDiff, Nat.le_refl, vsplice, Nat.reduceLT, Int.toNat_natCast, eq_self, ge_iff_le, Bool.and_eq_true, Nat.reduceSub, VS_cf, vrow_stale, n_ne_succ, vkeeps, vkoff, vblk, bne_iff_ne, ne_eq, not_false_eq_true, not_true_eq_false]
        refine ⟨i + 1, by omega, rfl, by omega, ?_⟩
        simp only [scrubE_app, h0, h1, h2, h21, h22, hstep, scrub_of (custsV_pure _), scrub_of (ids_pure _), VX, Nat.reduceEqDiff, Nat.reduceAdd, List.take_zero, rowsBelow, List.all_nil, List.length_nil, scrubE_app, scrub_sc, scrub_of]
      · rw [hF, hbe, decide_eq_false q, if_neg (by decide)] at hstep
        simp only [impl_next_b0, h0, h1, h2, h7, h21, h22, h23, hin, e1, e2, e3, e4, rd_cV, wi, q, Int.reduceEq, eq_self, cV, kV, VX, Nat.reduceEqDiff, Nat.reduceAdd, vload_pdef, vstore_pdef, viaddr_rdef, vlen_rdef, vfaddr_pdef, vchk_pdef, visnil_rdef, visnil_nil, visnil_cons, vrow_zero, vrow_succ, List.set_cons_zero, List.set_cons_succ, elemOf_one, elemOf_two, vresult, vresAll, vres1, vfill, isAny_sc, isAny_tree, isAny_ref, isAny_agg, isAny_clo, List.take_zero, List.take_succ_cons, List.take_nil, List.drop_zero, List.drop_succ_cons, List.drop_nil, List.append_nil, Nat.reduceLeDiff, Nat.le_refl, vsplice, Nat.reduceLT, Int.toNat_natCast, eq_self, ge_iff_le, Bool.and_eq_true, Nat.reduceSub, VS_cf, vrow_stale, n_ne_succ, vkeeps, vkoff, vblk, bne_iff_ne, ne_eq, not_false_eq_true, not_true_eq_false]
        refine ⟨i + 1, by omega, rfl, by omega, ?_⟩
        simp only [scrubE_app, h0, h1, h2, h7, h21, h22, hstep, scrub_of (custsV_pure _), scrub_of (ids_pure _), VX, Nat.reduceEqDiff, Nat.reduceAdd, List.take_zero, rowsBelow, List.all_nil, List.length_nil, scrubE_app, scrub_sc, scrub_of]
    · have hbe : befo 3 cs u v = decide (x.k < y.k) := by simp only [befo, klC_of hx, klC_of hy]; rfl
      by_cases q : x.k < y.k
      · rw [hF, hbe, decide_eq_true q, if_pos rfl] at hstep
        simp only [impl_next_b0, h0, h1, h2, h7, h21, h22, h23, hin, e1, e2, e3, e4, rd_cV, wi, q, Int.reduceEq, eq_self, cV, kV, VX, Nat.reduceEqDiff, Nat.reduceAdd, vload_pdef, vstore_pdef, viaddr_rdef, vlen_rdef, vfaddr_pdef, vchk_pdef, visnil_rdef, visnil_nil, visnil_cons, vrow_zero, vrow_succ, List.set_cons_zero, List.set_cons_succ, elemOf_one, elemOf_two, vresult, vresAll, vres1, vfill, isAny_sc, isAny_tree, isAny_ref, isAny_agg, isAny_clo, List.take_zero, List.take_succ_cons, List.take_nil, List.drop_zero, List.drop_succ_cons, List.drop_nil, List.append_nil, Nat.reduceLeDiff, Nat.le_refl, vsplice, Nat.reduceLT, Int.toNat_natCast, eq_self, ge_iff_le, Bool.and_eq_true, Nat.reduceSub, VS_cf, vrow_stale, n_ne_succ, vkeeps, vkoff, vblk, bne_iff_ne, ne_eq, not_false_eq_true, not_true_eq_false]
        refine ⟨i + 1, by omega, rfl, by omega, ?_⟩
        simp only [scrubE_app, h0, h1, h2, h21, h22, hstep, scrub_of (custsV_pure _), scrub_of (ids_pure _), VX, Nat.reduceEqDiff, Nat.reduceAdd, List.take_zero, rowsBelow, List.all_nil, List.length_nil, scrubE_app, scrub_sc, scrub_of]
      · rw [hF, hbe, decide_eq_false q, if_neg (by decide)] at hstep
        simp only [impl_next_b0, h0, h1, h2, h7, h21, h22, h23, hin, e1, e2, e3, e4, rd_cV, wi, q, Int.reduceEq, eq_self, cV, kV, VX, Nat.reduceEqDiff, Nat.reduceAdd, vload_pdef, vstore_pdef, viaddr_rdef, vlen_rdef, vfaddr_pdef, vchk_pdef, visnil_rdef, visnil_nil, visnil_cons, vrow_zero, vrow_succ, List.set_cons_zero, List.set_cons_succ, elemOf_one, elemOf_two, vresult, vresAll, vres1, vfill, isAny_sc, isAny_tree, isAny_ref, isAny_agg, isAny_clo, List.take_zero, List.take_succ_cons, List.take_nil, List.drop_zero, List.drop_succ_cons, List.drop_nil, List.append_nil, Nat.reduceLeDiff, Nat.le_refl, vsplice, Nat.reduceLT, Int.toNat_natCast, eq_self, ge_iff_le, Bool.and_eq_true, Nat.reduceSub, VS_cf, vrow_stale, n_ne_succ, vkeeps, vkoff, vblk, bne_iff_ne, ne_eq, not_false_eq_true, not_true_eq_false]
        refine ⟨i + 1, by omega, rfl, by omega, ?_⟩
        simp only [scrubE_app, h0, h1, h2, h7, h21, h22, hstep, scrub_of (custsV_pure _), scrub_of (ids_pure _), VX, Nat.reduceEqDiff, Nat.reduceAdd, List.take_zero, rowsBelow, List.all_nil, List.length_nil, scrubE_app, scrub_sc, scrub_of]
  · have hie : i = ws.length := by omega
    subst hie
    simp only [impl_next_b0, h7, h22, h23, hin, VX, Nat.reduceEqDiff, Nat.reduceAdd]
theorem impl_next_v (rule : Int) (cs : List Cust) (ws : List Nat) (hr : 0 ≤ rule ∧ rule ≤ 3) (hws : ∀ i ∈ ws, i < cs.length) (hne : 0 < ws.length) (hn : ws.length ≤ 1000000) : TC 31 [VI rule, idsV ws, custsV cs] (VI (nextP rule cs ws)) := by
  refine TC.walk ⟨true, false⟩ impl_next_t rfl (Nat.le_of_ble_eq_true rfl) (by simp only [pureL, custsV_pure, ids_pure]; rfl) rfl ?_
  have hq : rule = 0 ∨ rule = 1 ∨ rule = 2 ∨ rule = 3 := by omega
  rcases hq with rfl | rfl | rfl | rfl
  · simp only [impl_next, impl_next_c, Int.reduceEq, eq_self, VX, Nat.reduceEqDiff, Nat.reduceAdd]
    exact fz_res rfl
  · have w1 : IntKind.i64.wrap ((ws.length : Int) - 1) = ((ws.length - 1 : Nat) : Int) := wrapN _ (by omega) (by omega)
    simp only [impl_next, impl_next_c, w1, Int.reduceEq, eq_self, VX, Nat.reduceEqDiff, Nat.reduceAdd]
    exact fz_res rfl
  · simp only [impl_next, impl_next_c, Int.reduceEq, eq_self, VX, Nat.reduceEqDiff, Nat.reduceAdd]
    refine VW_use (impl_next_loop 2 cs ws (.inl rfl) hws hne hn _ ?_ ?_ ?_ ?_ ?_ ?_ ?_) ?_
    any_goals simp only [VX, Nat.reduceEqDiff, Nat.reduceAdd]
    rintro ρ' H' ⟨h7, rfl⟩
    simp only [h7, VX, Nat.reduceEqDiff, Nat.reduceAdd]
    exact fz_res rfl
  · simp only [impl_next, impl_next_c, Int.reduceEq, eq_self, VX, Nat.reduceEqDiff, Nat.reduceAdd]
    refine VW_use (impl_next_loop 3 cs ws (.inr rfl) hws hne hn _ ?_ ?_ ?_ ?_ ?_ ?_ ?_) ?_
    any_goals simp only [VX, Nat.reduceEqDiff, Nat.reduceAdd]
    rintro ρ' H' ⟨h7, rfl⟩
    simp only [h7, VX, Nat.reduceEqDiff, Nat.reduceAdd]
    exact fz_res rfl
end Go.PM

/- Lists cut, copied and cleared within a row. -/
namespace Go.PM
section
variable {α : Type} {f : α → VV} {H : VHeap} {b g e lo : Nat} {X Y : List α}
theorem set_same {es : List VV} {w : Bool} (h : vrow H b g = some (es, e, w)) : H.set b (.row g es e w) = H := by
  obtain ⟨hlt, hge⟩ := List.getElem?_eq_some_iff.1 (vrow_some.1 h)
  rw [← hge, List.set_getElem_self]
theorem vsplice_map {o : Nat} : vsplice (X.map f) o (Y.map f) = (X.take o ++ Y ++ X.drop (o + Y.length)).map f := by
  simp [vsplice]
theorem vclear_row {zero : List Value} {z : α} {o n cc : Nat} (h : vrow H b g = some (X.map f, zero.length, true)) (hz : elemOf (zero.map inj1) = f z) (hs : (zero.map inj1).all vscal = true) (hlo : lo ≤ b) (ho : o + n ≤ X.length) :
    vclear lo zero (.ref b g o n cc) H = some (H.set b (.row g ((X.take o ++ List.replicate n z ++ X.drop (o + n)).map f) zero.length true)) := by
  simp only [vclear, h]
  by_cases hn : n = 0
  · subst hn
    rw [if_pos rfl]
    have : X.take o ++ List.replicate 0 z ++ X.drop (o + 0) = X := by simp
    rw [this, set_same h]
  · rw [if_neg hn, if_pos ⟨trivial, hlo, by simpa using ho, hs⟩, hz]
    have := vsplice_map (f := f) (X := X) (Y := List.replicate n z) (o := o)
    rw [List.map_replicate, List.length_replicate] at this
    rw [this]
theorem vappend_in {i c bytes : Nat} (h : vrow H b g = some (X.map f, e, true)) (hc : X.length = c) (hlo : lo ≤ b) (he : 1 ≤ e) (hb : 1 ≤ bytes) (hi : i + Y.length ≤ c) :
    vappend lo e bytes (.ref b g 0 i c) (Y.map f) H = some (.ref b g 0 (i + Y.length) c, H.set b (.row g ((X.take i ++ Y ++ X.drop (i + Y.length)).map f) e true)) := by
  simp only [vappend, h, List.length_map]
  rw [if_pos ⟨hb, he⟩, if_pos ⟨trivial, hlo, by omega⟩, if_pos hi]
  by_cases hn : Y.length = 0
  · rw [if_pos hn]
    have hY : Y = [] := List.eq_nil_of_length_eq_zero hn
    subst hY
    have : X.take i ++ [] ++ X.drop (i + ([] : List α).length) = X := by simp
    rw [this, set_same h]
    rfl
  · rw [if_neg hn, if_pos (by omega), Nat.zero_add, vsplice_map]
theorem vcopy_row {o d cc : Nat} {y : VV} (h : vrow H b g = some (X.map f, e, true)) (hy : vsource e y H = some (Y.map f)) (hlo : lo ≤ b) (ho : o + (Y.take d).length ≤ X.length) :
    vcopy lo e (.ref b g o d cc) y H = some (VI (Y.take d).length, H.set b (.row g ((X.take o ++ Y.take d ++ X.drop (o + (Y.take d).length)).map f) e true)) := by
  simp only [vcopy, hy, h]
  rw [← List.map_take, vsplice_map, if_pos ⟨trivial, hlo, by simpa using ho⟩, List.length_map]
theorem vsource_row {o n cc : Nat} (h : vrow H b g = some (X.map f, e, true)) (hs : ∀ x, (vcells (f x)).all vscal = true) (ho : o + n ≤ X.length) : vsource e (.ref b g o n cc) H = some (((X.drop o).take n).map f) := by
  have hall : (((X.map f).drop o).take n).all (fun x => (vcells x).all vscal) = true := by
    rw [List.all_eq_true]
    intro x hx
    have h1 := List.mem_of_mem_drop (List.mem_of_mem_take hx)
    obtain ⟨y, _, rfl⟩ := List.mem_map.1 h1
    exact hs y
  simp only [vsource, h]
  rw [if_pos ⟨trivial, by simpa using ho, hall⟩, List.map_take, List.map_drop]
theorem vsub_ref3 {o n c l h m : Nat} {es : List VV} {w : Bool} (hr : vrow H b g = some (es, e, w)) (hl : l ≤ h) (hh : h ≤ m) (hm : m ≤ c) (hne : m ≠ l) {k1 k2 k3 : IntKind} :
    vsub e (.ref b g o n c) (some (VK k1 l)) (some (VK k2 h)) (some (VK k3 m)) H = some (.ref b g (o + l) (h - l) (m - l)) := by
  have e0 : (0 : Int) ≤ m ∧ (m : Int) ≤ (c : Int) := by omega
  have e1 : (0 : Int) ≤ h ∧ (h : Int) ≤ (m : Int) := by omega
  have e2 : (0 : Int) ≤ l ∧ (l : Int) ≤ (h : Int) := by omega
  simp only [vsub, vnum, hr, if_true, pbound, e0, e1, e2, Int.toNat_natCast, Option.isSome_some, true_and]
  simp [hl, hne]
end
set_option maxHeartbeats 1000000 in
theorem slices_Delete_int_v {lo b g c k i : Nat} {H : VHeap} {all : List Nat} (hb : vrow H b g = some (all.map kV, 1, true)) (hlo : lo ≤ b) (hi : i < k) (hk : k ≤ c) (hc : all.length = c) :
    VRaw 32 [.ref b g 0 k c, VI i, VI ((i + 1 : Nat) : Int)] lo H fun r H' => ∃ all' : List Nat, r = .ref b g 0 (k - 1) c ∧ H' = H.set b (.row g (all'.map kV) 1 true) ∧ all'.length = c ∧ all'.take (k - 1) = (all.take k).eraseIdx i := by
  refine VRaw.walk ⟨true, false⟩ slices_Delete___int_int__t (Nat.le_of_ble_eq_true rfl) ?_
  have hbl : b < H.length := (List.getElem?_eq_some_iff.1 (vrow_some.1 hb)).1
  have hR : ∀ X : List Nat, vrow (H.set b (.row g (X.map kV) 1 true)) b g = some (X.map kV, 1, true) := fun X => vrow_some.2 (List.getElem?_set_self hbl)
  have el := vlen_ref (o := 0) (n := k) (c := c) hb
  have hne : ¬ (i : Int) = ((i + 1 : Nat) : Int) := by omega
  have s1 := vsub_ref3 (o := 0) (n := k) (c := c) (l := i) (h := i + 1) (m := k) (k1 := .i64) (k2 := .i64) (k3 := .i64) hb (by omega) (by omega) hk (by omega)
  have s2 := vsub_ref_to (o := 0) (n := k) (c := c) (h := i) (k2 := .i64) hb (by omega)
  have s3 := vsub_ref_from (o := 0) (n := k) (c := c) (l := i + 1) (k1 := .i64) hb (by omega) hk
  have s4 := vsource_row (f := kV) (o := i + 1) (n := k - (i + 1)) (cc := c - (i + 1)) hb (fun _ => rfl) (by omega)
  have hYl : ((all.drop (i + 1)).take (k - (i + 1))).length = k - (i + 1) := by simp; omega
  have s5 := vappend_in (f := kV) (lo := lo) (bytes := 8) (i := i) (Y := (all.drop (i + 1)).take (k - (i + 1))) hb hc hlo (by decide) (by decide) (by rw [hYl]; omega)
  rw [hYl, show i + (k - (i + 1)) = k - 1 by omega] at s5
  have hXl : (all.take i ++ (all.drop (i + 1)).take (k - (i + 1)) ++ all.drop (k - 1)).length = c := by simp; omega
  have hXt : (all.take i ++ (all.drop (i + 1)).take (k - (i + 1)) ++ all.drop (k - 1)).take (k - 1) = (all.take k).eraseIdx i := by
    rw [List.eraseIdx_eq_take_drop_succ, List.take_append_of_le_length (by simp; omega), List.take_of_length_le (by simp; omega), List.take_take, Nat.min_eq_left (by omega), List.drop_take]
  generalize all.take i ++ (all.drop (i + 1)).take (k - (i + 1)) ++ all.drop (k - 1) = X at *
  have el2 := vlen_ref (o := 0) (n := k - 1) (c := c) (hR X)
  have s6 := vsub_ref (o := 0) (n := k - 1) (c := c) (l := k - 1) (h := k) (k1 := .i64) (k2 := .i64) (hR X) (by omega) hk
  have s7 := vclear_row (f := kV) (zero := [.int .i64 0]) (z := 0) (lo := lo) (o := k - 1) (n := k - (k - 1)) (cc := c - (k - 1)) (hR X) rfl rfl hlo (by omega)
  simp only [slices_Delete___int_int_, slices_Delete___int_int__c, el, el2, hne, s1, s2, s3, s4, s5, s6, s7, List.set_set, VX, Nat.reduceEqDiff, Nat.reduceAdd]
  refine ⟨_, rfl, ?_, ?_⟩
  · simp; omega
  · rw [← hXt, List.append_assoc, List.take_append_of_le_length (by simp; omega), List.take_take, Nat.min_self]
set_option maxHeartbeats 1000000 in
theorem slices_Repeat_i64_v (v : Int) (N : Nat) (hN : N ≤ 1000000) : FC 28 [numsV [v], VI N] fun n r L => r = .ref n 0 0 N N ∧ L = [.row 0 ((List.replicate N v).map nV) 1 true] := by
  refine FC.walk ⟨true, false⟩ slices_Repeat___int64_int64__t (Nat.le_of_ble_eq_true rfl) fun n => ?_
  have eM := math_bits_Mul_one N (by omega)
  have c1 : IntKind.u64.wrap ((1 : Nat) : Int) = 1 := wrapU 1 (by decide)
  have c2 : IntKind.u64.wrap (N : Int) = (N : Int) := wrapU N (by omega)
  have c3 : IntKind.i64.wrap (N : Int) = (N : Int) := wrap64 (by omega) (by omega)
  have g1 : ¬ (N : Int) < 0 := by omega
  have g2 : ¬ (0 : Int) < 0 := by decide
  have g3 : ¬ (9223372036854775807 : Int) < (N : Int) := by omega
  have em := fun H => vmake_map (H := H) (f := nV) (x := 0) (z := [.int .i64 0]) (bytes := 8) (n := N) rfl (by omega) (by omega)
  have s1 := vsource_one (size := 1) (v := nV v) (t := .op) (H := List.replicate n VBlk.dead ++ [.row 0 ((List.replicate N (0 : Int)).map nV) 1 true]) rfl rfl
  have r1 : vrow (List.replicate n VBlk.dead ++ [.row 0 ((List.replicate N (0 : Int)).map nV) 1 true]) n 0 = some ((List.replicate N (0 : Int)).map nV, 1, true) := by rw [vrow_D0, vrow_zero]
  have s2 := vcopy_row (f := nV) (Y := [v]) (lo := n) (o := 0) (d := N) (cc := N) (y := numsV [v]) r1 s1 (Nat.le_refl _) (by simp; omega)
  rw [set_D0] at s2
  simp only [slices_Repeat___int64_int64_, slices_Repeat___int64_int64__c, eM, c1, c2, c3, g1, g2, g3, em, s2, VX, Nat.reduceEqDiff, Nat.reduceAdd, vrow_D0, vrow_Dk, set_D0, set_Dk, len_D, List.append_assoc, Nat.le_add_right, take_Dk, take_D0, List.length_replicate]
  refine VW_loop (fun (i : Nat) ρ H => i ≤ N ∧ (i = 0 → N = 0) ∧ H = List.replicate n VBlk.dead ++ [.row 0 ((List.replicate i v ++ List.replicate (N - i) 0).map nV) 1 true] ∧ ρ 7 = .ref n 0 0 N N ∧ ρ 8 = VI i) (fun i => N - i) (min 1 N) ?_ ?_
  refine ⟨by omega, by omega, ?_, rfl, ?_⟩
  · congr 2
    cases N with
    | zero => rfl
    | succ N =>
      have : min 1 (N + 1) = 1 := by omega
      rw [this]
      simp [List.replicate_succ]
  · cases N with
    | zero => rfl
    | succ N =>
      have : min 1 (N + 1) = 1 := by omega
      simp only [this, VX, Nat.reduceEqDiff, Nat.reduceAdd]
      simp
  rintro i ρ H ⟨hi, h0, rfl, h7, h8⟩
  have hr : vrow (List.replicate n VBlk.dead ++ [.row 0 ((List.replicate i v ++ List.replicate (N - i) 0).map nV) 1 true]) n 0 = some ((List.replicate i v ++ List.replicate (N - i) 0).map nV, 1, true) := by rw [vrow_D0, vrow_zero]
  have el := vlen_ref (o := 0) (n := N) (c := N) hr
  by_cases hin : (i : Int) < (N : Int)
  · have hXl : (List.replicate i v ++ List.replicate (N - i) (0 : Int)).length = N := by simp; omega
    have q1 := vsub_ref_from (o := 0) (n := N) (c := N) (l := i) (k1 := .i64) hr hi (Nat.le_refl _)
    have q2 := vsub_ref_to (o := 0) (n := N) (c := N) (h := i) (k2 := .i64) hr hi
    have q3 := vsource_row (f := nV) (o := 0) (n := i) (cc := N) hr (fun _ => rfl) (by omega)
    have hY : ((List.replicate i v ++ List.replicate (N - i) (0 : Int)).drop 0).take i = List.replicate i v := by
      rw [List.drop_zero, List.take_append_of_le_length (by simp), List.take_of_length_le (by simp)]
    rw [hY] at q3
    have hYd : (List.replicate i v).take (N - i) = List.replicate (min (N - i) i) v := List.take_replicate
    have q4 := vcopy_row (f := nV) (lo := n) (o := i) (d := N - i) (cc := N - i) hr q3 (Nat.le_refl _) (by rw [hYd, hXl]; simp; omega)
    rw [set_D0, hYd, List.length_replicate, List.take_append_of_le_length (by simp), List.take_of_length_le (by simp)] at q4
    have hX' : List.replicate i v ++ List.replicate (min (N - i) i) v ++ (List.replicate i v ++ List.replicate (N - i) (0 : Int)).drop (i + min (N - i) i) = List.replicate (i + min (N - i) i) v ++ List.replicate (N - (i + min (N - i) i)) 0 := by
      rw [List.replicate_append_replicate, List.drop_append, List.drop_of_length_le (by simp), List.nil_append, List.length_replicate, List.drop_replicate]
      congr 2
      omega
    rw [hX'] at q4
    have wi : IntKind.i64.wrap ((i : Int) + ((min (N - i) i : Nat) : Int)) = ((i + min (N - i) i : Nat) : Int) := wrapN _ (by omega) (by omega)
    simp only [slices_Repeat___int64_int64__b0, h7, h8, el, hin, q1, q2, q3, q4, wi, VX, Nat.reduceEqDiff, Nat.reduceAdd]
    exact ⟨i + min (N - i) i, by omega, by omega, by omega, rfl, rfl⟩
  · have hie : i = N := by omega
    subst hie
    simp only [slices_Repeat___int64_int64__b0, h7, h8, el, hin, VX, Nat.reduceEqDiff, Nat.reduceAdd]
    refine ⟨_, rfl, by simp [ownV], ?_, ?_⟩
    · simp only [rowsOwn, List.all_cons, List.all_nil, Bool.and_true]
      exact ownL_map (f := nV) (fun _ => rfl) _
    · rw [Nat.sub_self, List.replicate_zero, List.append_nil]
theorem impl_starts_1_v (x now : Int) : TC 30 [VI x, .tptr (VI now) 0] (.sc (.bool (decide (x ≤ now)))) := by
  refine TC.walk ⟨true, false⟩ impl_starts_1_t rfl (Nat.le_of_ble_eq_true rfl) rfl rfl ?_
  by_cases h : x ≤ now <;> simp only [impl_starts_1, impl_starts_1_c, h, VX, Nat.reduceEqDiff, Nat.reduceAdd] <;> exact fz_res rfl
theorem slices_IndexFunc_caps (xs : List Int) (g : Nat) (cap : VV) (p : Int → Bool) (hcap : pureV cap = true) (hg : ∀ x, TC g [VI x, cap] (.sc (.bool (p x)))) (hn : xs.length ≤ 1000000000) :
    TC 46 [numsV xs, .clo g [cap]] (VI (match xs.findIdx? p with | some i => i | none => -1)) := by
  refine TC.walk ⟨true, false⟩ slices_IndexFunc___int64_int64__t rfl (Nat.le_of_ble_eq_true rfl) (by rw [show pureL [numsV xs, .clo g [cap]] = (pureV (numsV xs) && ((pureV cap && true) && true)) from rfl, nums_pure, hcap]; rfl) rfl ?_
  simp only [slices_IndexFunc___int64_int64_, slices_IndexFunc___int64_int64__c, VX, Nat.reduceEqDiff, Nat.reduceAdd]
  refine VW_loop (fun (i : Nat) ρ H => i ≤ xs.length ∧ H = [] ∧ (∀ j x, j < i → xs[j]? = some x → p x = false) ∧ ρ 0 = numsV xs ∧ ρ 1 = .clo g [cap] ∧ ρ 7 = VI xs.length ∧ ρ 8 = VI i) (fun i => xs.length - i) 0 ⟨Nat.zero_le _, rfl, fun j x h => by omega, rfl, rfl, rfl, rfl⟩ ?_
  rintro i ρ H ⟨hi, rfl, hall, h0, h1, h7, h8⟩
  by_cases hin : (i : Int) < (xs.length : Int)
  · obtain ⟨x, hx⟩ : ∃ x, xs[i]? = some x := ⟨_, List.getElem?_eq_getElem (by omega)⟩
    have e1 := viaddr_map (f := nV) (t := .op) (H := []) (size := 1) (k := .i64) hx rfl
    have wi : IntKind.i64.wrap ((i : Int) + 1) = ((i + 1 : Nat) : Int) := wrapN (i + 1) (by omega) (by omega)
    have e2 := hg x
    cases hp : p x with
    | false =>
      rw [hp] at e2
      simp only [slices_IndexFunc___int64_int64__b0, h0, h1, h7, h8, hin, e1, e2, wi, List.cons_append, List.nil_append, VX, Nat.reduceEqDiff, Nat.reduceAdd]
      refine ⟨i + 1, by omega, by omega, fun j y hj hy => ?_, by (repeat' apply And.intro) <;> first | rfl | trivial⟩
      rcases Nat.lt_or_ge j i with hji | hji
      · exact hall j y hji hy
      · have : j = i := by omega
        subst this
        rw [hx] at hy
        injection hy with hy
        exact hy ▸ hp
    | true =>
      rw [hp] at e2
      simp only [slices_IndexFunc___int64_int64__b0, h0, h1, h7, h8, hin, e1, e2, wi, List.cons_append, List.nil_append, VX, Nat.reduceEqDiff, Nat.reduceAdd]
      have : xs.findIdx? p = some i := by
        rw [List.findIdx?_eq_some_iff_getElem]
        obtain ⟨hlt, hge⟩ := List.getElem?_eq_some_iff.1 hx
        exact ⟨hlt, by rw [hge]; exact hp, fun j hj => by
          have := hall j _ hj (List.getElem?_eq_getElem (by omega))
          simp [this]⟩
      rw [this]
      exact fz_res rfl
  · simp only [slices_IndexFunc___int64_int64__b0, h0, h1, h7, h8, hin, VX, Nat.reduceEqDiff, Nat.reduceAdd]
    have : xs.findIdx? p = none := by
      rw [List.findIdx?_eq_none_iff]
      intro x hx
      obtain ⟨j, hj⟩ := List.getElem?_of_mem hx
      exact hall j x (by have := (List.getElem?_eq_some_iff.1 hj).1; omega) hj
    rw [this]
    exact fz_res rfl
theorem fz_box {H : VHeap} {bx : Nat} {v : VV} {w : Bool} (h : vrow H bx 0 = some ([v], 1, w)) (hp : pureV v = true) : fz depth H (.ptr bx 0 0 0) = some (.tptr v 0) := by
  have h1 : pureV (.ptr bx 0 0 0) = false := rfl
  show fz (7 + 1) H _ = _
  unfold fz
  simp only [h1, h, Bool.false_eq_true, if_false, List.getElem?_cons_zero]
  show (fz (6 + 1) H v).map _ = _
  unfold fz
  rw [if_pos hp]
  rfl
theorem fz_clo1 {H : VHeap} {bx f : Nat} {v : VV} {w : Bool} (h : vrow H bx 0 = some ([v], 1, w)) (hp : pureV v = true) : fz depth H (.clo f [.ptr bx 0 0 0]) = some (.clo f [.tptr v 0]) := by
  have h1 : pureV (.clo f [.ptr bx 0 0 0]) = false := rfl
  have h2 : pureV (.ptr bx 0 0 0) = false := rfl
  have h3 : fz 7 H (.ptr bx 0 0 0) = some (.tptr v 0) := by
    show fz (6 + 1) H _ = _
    unfold fz
    simp only [h2, h, Bool.false_eq_true, if_false, List.getElem?_cons_zero]
    show (fz (5 + 1) H v).map _ = _
    unfold fz
    rw [if_pos hp]
    rfl
  show fz (7 + 1) H _ = _
  unfold fz
  simp only [h1, Bool.false_eq_true, if_false, List.mapM_cons, List.mapM_nil, h3]
  rfl
set_option maxHeartbeats 1000000 in
theorem slices_DeleteFunc_i64_v {lo b g c k bx fc : Nat} {H : VHeap} {all : List Int} {now : Int} {p : Int → Bool} (hb : vrow H b g = some (all.map nV, 1, true)) (hx : vrow H bx 0 = some ([VI now], 1, true)) (hbx : b ≠ bx) (hlo : lo ≤ b) (hk : k ≤ c) (hc : all.length = c) (hn : k ≤ 1000000)
    (hp : ∀ x, TC fc [VI x, .tptr (VI now) 0] (.sc (.bool (p x)))) (hraw : raws.contains fc = false) :
    VRaw 29 [.ref b g 0 k c, .clo fc [.ptr bx 0 0 0]] lo H fun r H' => ∃ all' : List Int, r = .ref b g 0 ((all.take k).filter fun x => !p x).length c ∧ H' = H.set b (.row g (all'.map nV) 1 true) ∧ all'.length = c ∧ all'.take ((all.take k).filter fun x => !p x).length = (all.take k).filter fun x => !p x := by
  refine VRaw.walk ⟨true, false⟩ slices_DeleteFunc___int64_int64__t (Nat.le_of_ble_eq_true rfl) ?_
  have hbl : b < H.length := (List.getElem?_eq_some_iff.1 (vrow_some.1 hb)).1
  have hR : ∀ X : List Int, vrow (H.set b (.row g (X.map nV) 1 true)) b g = some (X.map nV, 1, true) := fun X => vrow_some.2 (List.getElem?_set_self hbl)
  have hX : ∀ X : List Int, vrow (H.set b (.row g (X.map nV) 1 true)) bx 0 = some ([VI now], 1, true) := fun X => vrow_set_ne hbx hx
  have h00 := set_same hb
  have e0 : fz depth H (.ref b g 0 k c) = some (numsV (all.take k)) := by
    rw [fz_rowP hb (by rw [List.length_map]; omega) hk (nums_pureL _), ← List.map_take]
  have eI : ∀ lo K, vcallP 46 [.ref b g 0 k c, .clo fc [.ptr bx 0 0 0]] lo H K = K (VI (match (all.take k).findIdx? p with | some i => i | none => -1)) H := fun lo K =>
    TC.flat (slices_IndexFunc_caps (all.take k) fc (.tptr (VI now) 0) p rfl hp (by simp; omega)) rfl (by rw [show pureL [numsV (all.take k), .clo fc [.tptr (VI now) 0]] = (pureV (numsV (all.take k)) && true) from rfl, nums_pure]; rfl) (fz2 e0 (fz_clo1 hx rfl)) rfl lo K
  have eP : ∀ (X : List Int) (x : Int) lo K, vcallP fc [VI x, .ptr bx 0 0 0] lo (H.set b (.row g (X.map nV) 1 true)) K = K (.sc (.bool (p x))) (H.set b (.row g (X.map nV) 1 true)) := fun X x lo K =>
    TC.flat (hp x) hraw rfl (fz2 (fz_res rfl) (fz_box (hX X) rfl)) rfl lo K
  cases hi : (all.take k).findIdx? p with
  | none =>
    rw [hi] at eI
    have hf : ((all.take k).filter fun x => !p x) = all.take k := by
      rw [List.filter_eq_self]
      intro x hx
      rw [List.findIdx?_eq_none_iff] at hi
      rw [hi x hx]
      rfl
    simp only [slices_DeleteFunc___int64_int64_, slices_DeleteFunc___int64_int64__c, eI, eq_self, VX, Nat.reduceEqDiff, Nat.reduceAdd]
    rw [hf]
    refine ⟨all, ?_, h00.symm, hc, ?_⟩
    · rw [List.length_take, Nat.min_eq_left (by omega)]
    · rw [List.length_take, Nat.min_eq_left (by omega)]
  | some i =>
    rw [hi] at eI
    obtain ⟨hil, hpi, hall⟩ := List.findIdx?_eq_some_iff_getElem.1 hi
    simp only [List.length_take] at hil
    have hne : ¬ (i : Int) = -1 := by omega
    have wi : IntKind.i64.wrap ((i : Int) + 1) = ((i + 1 : Nat) : Int) := wrapN (i + 1) (by omega) (by omega)
    have hfi : (all.take i).filter (fun x => !p x) = all.take i := by
      rw [List.filter_eq_self]
      intro x hx
      obtain ⟨j, hj⟩ := List.getElem?_of_mem hx
      obtain ⟨hj1, hj2⟩ := List.getElem?_eq_some_iff.1 hj
      have hji : j < i := by simp at hj1; omega
      have := hall j hji
      rw [List.getElem_take] at this
      rw [List.getElem_take] at hj2
      rw [hj2] at this
      simpa using this
    have hpi' : p all[i] = true := by rw [List.getElem_take] at hpi; exact hpi
    simp only [slices_DeleteFunc___int64_int64_, slices_DeleteFunc___int64_int64__c, eI, hne, wi, VX, Nat.reduceEqDiff, Nat.reduceAdd]
    refine VW_loop (fun (s : Nat × Nat × List Int) ρ H1 => s.2.1 ≤ k ∧ s.1 ≤ s.2.1 ∧ s.2.2.length = c ∧ s.2.2.take s.1 = (all.take s.2.1).filter (fun x => !p x) ∧ s.2.2.drop s.2.1 = all.drop s.2.1 ∧ H1 = H.set b (.row g (s.2.2.map nV) 1 true) ∧ ρ 0 = .ref b g 0 k c ∧ ρ 1 = .clo fc [.ptr bx 0 0 0] ∧ ρ 5 = VI s.1 ∧ ρ 6 = VI s.2.1) (fun s => k - s.2.1) (i, i + 1, all) ?_ ?_
    · refine ⟨by simp only; omega, by simp only; omega, hc, ?_, rfl, h00.symm, rfl, rfl, rfl, rfl⟩
      simp only
      rw [List.take_add_one, List.filter_append, hfi, List.getElem?_eq_getElem (by omega)]
      simp [hpi']
    rintro ⟨j, m, X⟩ ρ H1 ⟨hm, hjm, hXl, hXt, hXd, rfl, h0, h1, h5, h6⟩
    simp only at hm hjm hXl hXt hXd h5 h6
    have el := vlen_ref (o := 0) (n := k) (c := c) (hR X)
    by_cases hin : (m : Int) < (k : Int)
    · obtain ⟨x, hx1⟩ : ∃ x, X[m]? = some x := ⟨_, List.getElem?_eq_getElem (by omega)⟩
      have hx2 : all[m]? = some x := by
        have := congrArg (fun l => l[0]?) hXd
        simp only [List.getElem?_drop, Nat.add_zero] at this
        rw [← this, hx1]
      have a1 := viaddr_row (o := 0) (n := k) (c := c) (i := m) (k := .i64) (hR X) (by omega)
      have a2 := viaddr_row (o := 0) (n := k) (c := c) (i := j) (k := .i64) (hR X) (by omega)
      have a3 : vload false 1 (.ptr b g (0 + m) 0) (H.set b (.row g (X.map nV) 1 true)) = some (VI x) := by rw [Nat.zero_add, vload_row (hR X) hx1]; rfl
      have a4 := vstore_map (f := nV) (x := x) (lo := lo) (j := 0 + j) (hR X) (by omega) hlo rfl rfl
      rw [Nat.zero_add] at a1 a2 a3 a4
      have wm : IntKind.i64.wrap ((m : Int) + 1) = ((m + 1 : Nat) : Int) := wrapN (m + 1) (by omega) (by omega)
      have wj : IntKind.i64.wrap ((j : Int) + 1) = ((j + 1 : Nat) : Int) := wrapN (j + 1) (by omega) (by omega)
      have hd1 : X.drop (m + 1) = all.drop (m + 1) := by
        have := congrArg (List.drop 1) hXd
        simpa [List.drop_drop] using this
      cases hpx : p x with
      | true =>
        have eP := fun lo K => eP X x lo K
        rw [hpx] at eP
        simp only [slices_DeleteFunc___int64_int64__b0, h0, h1, h5, h6, el, hin, a1, a3, eP, wm, List.cons_append, List.nil_append, VX, Nat.reduceEqDiff, Nat.reduceAdd]
        refine ⟨(j, m + 1, X), by simp only; omega, by simp only; omega, by simp only; omega, hXl, ?_, hd1, rfl, rfl, rfl⟩
        simp only
        rw [hXt, List.take_add_one, hx2, List.filter_append]
        simp [hpx]
      | false =>
        have eP := fun lo K => eP X x lo K
        rw [hpx] at eP
        simp only [slices_DeleteFunc___int64_int64__b0, h0, h1, h5, h6, el, hin, a1, a2, a3, a4, eP, wm, wj, List.set_set, List.cons_append, List.nil_append, VX, Nat.reduceEqDiff, Nat.reduceAdd]
        refine ⟨(j + 1, m + 1, X.set j x), by simp only; omega, by simp only; omega, by simp only; omega, by simp [hXl], ?_, ?_, rfl, rfl, rfl⟩
        · simp only
          rw [List.take_add_one, List.take_set_of_le (Nat.le_refl _), List.getElem?_set_self (by omega), hXt, List.take_add_one, hx2, List.filter_append]
          simp [hpx]
        · simp only
          rw [List.drop_set_of_lt (by omega)]
          exact hd1
    · have hme : m = k := by omega
      subst hme
      have q1 := vsub_ref_from (o := 0) (n := m) (c := c) (l := j) (k1 := .i64) (hR X) hjm hk
      have q2 := vclear_row (f := nV) (zero := [.int .i64 0]) (z := 0) (lo := lo) (o := 0 + j) (n := m - j) (cc := c - j) (hR X) rfl rfl hlo (by omega)
      rw [Nat.zero_add] at q1 q2
      have q3 := fun Y => vsub_ref_to (o := 0) (n := m) (c := c) (h := j) (k2 := .i64) (hR Y) (by omega)
      have hfl : ((all.take m).filter fun x => !p x).length = j := by
        rw [← hXt, List.length_take, Nat.min_eq_left (by omega)]
      simp only [slices_DeleteFunc___int64_int64__b0, h0, h1, h5, h6, el, hin, q1, q2, q3, List.set_set, VX, Nat.reduceEqDiff, Nat.reduceAdd]
      rw [hfl]
      refine ⟨_, rfl, rfl, ?_, ?_⟩
      · simp; omega
      · rw [← hXt, List.append_assoc, List.take_append_of_le_length (by simp; omega), List.take_take, Nat.min_self]
end Go.PM

/- The last come first, with interruptions: plain words. -/
namespace Go.PM
def irOk (N : Nat) (hi : Int) (st : List (Nat × Int)) : Prop := ∀ p ∈ st, p.1 < N ∧ 1 ≤ p.2 ∧ p.2 ≤ hi
theorem irOk.cons {N : Nat} {hi : Int} {p : Nat × Int} {st : List (Nat × Int)} (h : irOk N hi (p :: st)) : (p.1 < N ∧ 1 ≤ p.2 ∧ p.2 ≤ hi) ∧ irOk N hi st := ⟨h p List.mem_cons_self, fun q hq => h q (List.mem_cons_of_mem _ hq)⟩
theorem irOk.of {N : Nat} {hi : Int} {p : Nat × Int} {st : List (Nat × Int)} (hp : p.1 < N ∧ 1 ≤ p.2 ∧ p.2 ≤ hi) (h : irOk N hi st) : irOk N hi (p :: st) := fun q hq => by
  rcases List.mem_cons.1 hq with rfl | hq
  · exact hp
  · exact h q hq
theorem vappend_part {α : Type} {f : α → VV} {all : List α} {x : α} {lo b g k e bytes : Nat} {H : VHeap} (h : vrow H b g = some (all.map f, e, true)) (hk : k ≤ all.length) (hlo : lo ≤ b) (he : 1 ≤ e) (hb : 1 ≤ bytes) (hsz : (k + 1) * bytes ≤ 140737488355328) :
    ∃ (g' : Nat) (all' : List α), vappend lo e bytes (.ref b g 0 k all.length) [f x] H = some (.ref b g' 0 (k + 1) all'.length, H.set b (.row g' (all'.map f) e true)) ∧ k + 1 ≤ all'.length ∧ all'.take (k + 1) = all.take k ++ [x] := by
  simp only [vappend, h, List.length_cons, List.length_nil, Nat.zero_add]
  rw [if_pos ⟨hb, he⟩, if_pos ⟨trivial, hlo, by simpa using hk⟩]
  by_cases hc : k + 1 ≤ all.length
  · rw [if_pos hc, if_neg (by decide), if_pos (by simpa using hc)]
    refine ⟨g, all.set k x, ?_, by simpa using hc, ?_⟩
    · have : vsplice (all.map f) k [f x] = (all.set k x).map f := by
        rw [List.map_set, List.set_eq_take_append_cons_drop, if_pos (by simp; omega)]
        simp [vsplice]
      rw [this, List.length_set]
    · rw [List.take_add_one, List.take_set_of_le (Nat.le_refl _), List.getElem?_set_self (by omega)]
      rfl
  · rw [if_neg hc, if_pos hsz]
    have hke : k = all.length := by omega
    subst hke
    refine ⟨g + 1, all ++ [x], ?_, by simp, by rw [List.take_of_length_le (by simp), List.take_of_length_le (Nat.le_refl _)]⟩
    rw [List.drop_zero, List.take_of_length_le (by simp)]
    simp
end Go.PM
