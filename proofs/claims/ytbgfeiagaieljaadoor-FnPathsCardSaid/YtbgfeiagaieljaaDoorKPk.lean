/- Texts of a claim, in one: part 11. -/
import Derived.Test.YtbgfeiagaieljaaDoorKPj

/- The reference's numbers of at least 0: long division. -/
set_option linter.unusedSimpArgs false
set_option linter.unusedVariables false
namespace Go.PM
abbrev H2 (us os : List Nat) : VHeap := [.row 0 (us.map tV) 1 true, .row 0 (os.map tV) 1 true]
theorem H2_0 {us os : List Nat} : vrow (H2 us os) 0 0 = some (us.map tV, 1, true) := rfl
theorem H2_1 {us os : List Nat} : vrow (H2 us os) 1 0 = some (os.map tV, 1, true) := rfl
theorem int_top {P a Z : Nat} {y : Int} (h : (a : Int) + (P : Int) * y = (Z : Int)) (ha : a < P) (hZ : Z < P) : y = 0 ∧ a = Z := by
  have hy : y = 0 := by
    rcases Int.lt_trichotomy y 0 with h1 | h1 | h1
    · have : (P : Int) * y ≤ (P : Int) * (-1) := Int.mul_le_mul_of_nonneg_left (by omega) (by omega)
      omega
    · exact h1
    · have : (P : Int) * 1 ≤ (P : Int) * y := Int.mul_le_mul_of_nonneg_left (by omega) (by omega)
      omega
  subst hy
  rw [Int.mul_zero] at h
  exact ⟨rfl, by omega⟩
theorem seg_factsT {us : List Nat} {i n N V : Nat} (hN : us.length = N) (hin : i + n < N) (hd : ∀ d ∈ us, d < 1000000000) (hV : V < 1000000000 ^ n) (hless : val 1000000000 (us.drop (i + 1)) < V) :
    us = us.take i ++ (us.drop i).take (n + 1) ++ us.drop (i + (n + 1)) ∧ (us.take i).length = i ∧ ((us.drop i).take (n + 1)).length = n + 1 ∧ val 1000000000 ((us.drop i).take (n + 1)) < 1000000000 * V ∧ val 1000000000 (us.drop i) = val 1000000000 ((us.drop i).take (n + 1)) ∧ val 1000000000 (us.drop (i + (n + 1))) = 0 ∧ ∀ j, j < n + 1 → ((us.drop i).take (n + 1))[j]? = us[i + j]? := by
  obtain ⟨x, hx⟩ : ∃ x, us[i]? = some x := ⟨_, List.getElem?_eq_getElem (by omega)⟩
  have lx := hd x (List.mem_of_getElem? hx)
  have h1 := val_drop (b := 1000000000) hx
  have h2 : val 1000000000 (us.drop i) < 1000000000 * V := by
    have : 1000000000 * (val 1000000000 (us.drop (i + 1)) + 1) ≤ 1000000000 * V := Nat.mul_le_mul_left _ hless
    omega
  have h3 := val_split (b := 1000000000) (us.drop i) (n + 1)
  have h4 : ((us.drop i).take (n + 1)).length = n + 1 := by rw [List.length_take, List.length_drop]; omega
  rw [h4, List.drop_drop] at h3
  have h5 : val 1000000000 (us.drop (i + (n + 1))) = 0 := by
    rcases Nat.eq_zero_or_pos (val 1000000000 (us.drop (i + (n + 1)))) with h | h
    · exact h
    · have h6 : 1000000000 ^ (n + 1) * 1 ≤ 1000000000 ^ (n + 1) * val 1000000000 (us.drop (i + (n + 1))) := Nat.mul_le_mul_left _ h
      have h7 : 1000000000 * V ≤ 1000000000 ^ (n + 1) := by rw [Nat.pow_succ, Nat.mul_comm]; exact Nat.mul_le_mul_right _ (by omega)
      omega
  rw [h5, Nat.mul_zero, Nat.add_zero] at h3
  refine ⟨?_, by rw [List.length_take]; omega, h4, by omega, h3, h5, fun j hj => ?_⟩
  · rw [List.append_assoc, ← List.drop_drop, List.take_append_drop, List.take_append_drop]
  · rw [List.getElem?_take_of_lt hj, List.getElem?_drop]
theorem leT {g : Nat} (h : (1000000000 : Int) ≤ (g : Int)) : 1000000000 ≤ g := by omega
theorem nleT {g : Nat} (h : ¬ (1000000000 : Int) ≤ (g : Int)) : g < 1000000000 := by omega
theorem ltC {a b : Nat} (h : (a : Int) < (b : Int)) : a < b := by omega
theorem nltC {a b : Nat} (h : ¬ (a : Int) < (b : Int)) : b ≤ a := by omega
theorem wrap_mulT {a : Nat} (h : a * 1000000000 ≤ 9223372036854775807) : IntKind.i64.wrap ((a : Int) * 1000000000) = ((a * 1000000000 : Nat) : Int) := wrapN _ (by omega) h
theorem wrap_addC {a b : Nat} (h : a + b ≤ 9223372036854775807) : IntKind.i64.wrap ((a : Int) + (b : Int)) = ((a + b : Nat) : Int) := wrapN _ (by omega) h
theorem wrap_mulC {a b : Nat} (h : a * b ≤ 9223372036854775807) : IntKind.i64.wrap ((a : Int) * (b : Int)) = ((a * b : Nat) : Int) := wrapN _ (by simp) h
theorem x17 {a : Nat} (h : a < 1000000000) : a * 1000000000 ≤ 9223372036854775807 := by omega
theorem x18 {a b : Nat} (h : a < 1000000000) (hb : b < 1000000000) : a * 1000000000 + b ≤ 1000000000000000000 := by omega
theorem guess_loopT {seg vs us os : List Nat} {n u2 u1 u0 v1 v0 N i g left : Nat} (G : Guess 1000000000 seg vs n u2 u1 u0 v1 v0) {ρ : VEnv} {Q : VQ} (hN : us.length = N) (hiN : i + (n + 2) < N) (hcap : N ≤ 70368744177664) (hu0 : us[i + n]? = some u0)
    (g13 : ρ 13 = .ref 0 0 0 N N) (g14 : ρ 14 = natL' vs) (g15 : ρ 15 = VI ((n + 2 : Nat) : Int)) (g17 : ρ 17 = VI i) (g19 : ρ 19 = VI g) (g20 : ρ 20 = VI left) (hh : u2 * 1000000000 + u1 = g * v1 + left) (hq : val 1000000000 seg / val 1000000000 vs ≤ g) (hl : left < 1000000000) (hgb : g ≤ 1000000000000000000)
    (hQ : ∀ (ρ' : VEnv) (g' : Nat), val 1000000000 seg / val 1000000000 vs ≤ g' → g' ≤ val 1000000000 seg / val 1000000000 vs + 1 → g' < 1000000000 → ρ' 19 = VI g' → ρ' 12 = ρ 12 → ρ' 13 = ρ 13 → ρ' 14 = ρ 14 → ρ' 15 = ρ 15 → ρ' 16 = ρ 16 → ρ' 17 = ρ 17 → Q (.exit 2) ρ' (H2 us os)) :
    VW ⟨true, false⟩ 0 (.loop spec_l01NatDiv_b0) Q ρ (H2 us os) := by
  have lv1 := G.lt_v1
  have lv0 := G.lt_v0
  have lu0 := G.lt_u0
  have qlt := G.q_lt
  have hpos := G.pos
  have hvl := G.vs_len
  refine VW_loop (fun (t : Nat × Nat) ρ' H => H = H2 us os ∧ u2 * 1000000000 + u1 = t.1 * v1 + t.2 ∧ val 1000000000 seg / val 1000000000 vs ≤ t.1 ∧ t.2 < 1000000000 ∧ t.1 ≤ 1000000000000000000 ∧
    ρ' 13 = .ref 0 0 0 N N ∧ ρ' 14 = natL' vs ∧ ρ' 15 = VI ((n + 2 : Nat) : Int) ∧ ρ' 17 = VI i ∧ ρ' 19 = VI t.1 ∧ ρ' 20 = VI t.2 ∧ ρ' 12 = ρ 12 ∧ ρ' 16 = ρ 16) (fun t => 1000000000 - t.2) (g, left) ⟨rfl, hh, hq, hl, hgb, g13, g14, g15, g17, g19, g20, rfl, rfl⟩ ?_
  rintro ⟨g, left⟩ ρ2 H ⟨rfl, hh, hq, hl, hgb, k13, k14, k15, k17, k19, k20, k12, k16⟩
  simp only at hh hq hl hgb k19 k20
  have f1 : viaddr 1 (natL' vs) (VI ((n + 1 : Nat) : Int)) (H2 us os) = some (.tptr (tV v1) 0) := viaddr_map (f := tV) (t := .op) (size := 1) (k := .i64) G.f1 rfl
  have f0 : viaddr 1 (natL' vs) (VI (n : Int)) (H2 us os) = some (.tptr (tV v0) 0) := viaddr_map (f := tV) (t := .op) (size := 1) (k := .i64) G.f0 rfl
  have wn2 : IntKind.i64.wrap (((n + 2 : Nat) : Int) - 2) = (n : Int) := wrapN _ (by omega) (by omega)
  have wn1 : IntKind.i64.wrap (((n + 2 : Nat) : Int) - 1) = ((n + 1 : Nat) : Int) := wrapN _ (by omega) (by omega)
  have wi : IntKind.i64.wrap ((i : Int) + ((n + 2 : Nat) : Int)) = ((i + (n + 2) : Nat) : Int) := wrapN _ (by omega) (by omega)
  have wi2 : IntKind.i64.wrap (((i + (n + 2) : Nat) : Int) - 2) = ((i + n : Nat) : Int) := wrapN _ (by omega) (by omega)
  have e1 : viaddr 1 (.ref 0 0 0 N N) (VI ((i + n : Nat) : Int)) (H2 us os) = some (.ptr 0 0 (i + n) 0) := by rw [viaddr_row H2_0 (by omega), Nat.zero_add]
  have e2 : vload false 1 (.ptr 0 0 (i + n) 0) (H2 us os) = some (VI (u0 : Int)) := vloadT H2_0 hu0
  have wl : IntKind.i64.wrap ((left : Int) + (v1 : Int)) = ((left + v1 : Nat) : Int) := wrapN _ (by omega) (by omega)
  have down : val 1000000000 seg / val 1000000000 vs < g → ∃ g', g = g' + 1 ∧ IntKind.i64.wrap ((g : Int) - 1) = (g' : Int) ∧ u2 * 1000000000 + u1 = g' * v1 + (left + v1) ∧ val 1000000000 seg / val 1000000000 vs ≤ g' := by
    intro h
    have hg1 : 1 ≤ g := Nat.lt_of_le_of_lt (Nat.zero_le _) h
    obtain ⟨g', rfl⟩ : ∃ g', g = g' + 1 := ⟨g - 1, by omega⟩
    refine ⟨g', rfl, wrapN _ (by omega) (by omega), ?_, by omega⟩
    rw [hh, Nat.add_mul]
    omega
  have hmu : ∀ g' : Nat, left + v1 < 1000000000 → 1000000000 - (g', left + v1).2 < 1000000000 - (g, left).2 := fun g' h => by
    show 1000000000 - (left + v1) < 1000000000 - left
    omega
  have hle : ∀ g' : Nat, g = g' + 1 → g' ≤ 1000000000000000000 := fun g' h => by
    omega
  have hl18 : left * 1000000000 + u0 ≤ 9223372036854775807 := Nat.le_trans (x18 hl lu0) (by decide)
  have hl17 : left * 1000000000 ≤ 9223372036854775807 := x17 hl
  have ws : IntKind.i64.wrap ((left : Int) * 1000000000) = ((left * 1000000000 : Nat) : Int) := wrap_mulT hl17
  have wa : IntKind.i64.wrap (((left * 1000000000 : Nat) : Int) + (u0 : Int)) = ((left * 1000000000 + u0 : Nat) : Int) := wrap_addC hl18
  obtain ⟨s13, s14, s15, s17⟩ : ρ2 13 = ρ 13 ∧ ρ2 14 = ρ 14 ∧ ρ2 15 = ρ 15 ∧ ρ2 17 = ρ 17 := ⟨by rw [k13, g13], by rw [k14, g14], by rw [k15, g15], by rw [k17, g17]⟩
  by_cases hA : (1000000000 : Int) ≤ (g : Int)
  · have hA' := leT hA
    obtain ⟨g', hg', wg, hh', hq'⟩ := down (Nat.lt_of_lt_of_le qlt hA')
    by_cases hB : (1000000000 : Int) ≤ ((left + v1 : Nat) : Int)
    · obtain ⟨c1, c2⟩ := G.broken hh' (leT hB)
      simp only [spec_l01NatDiv_b0, k13, k14, k15, k17, k19, k20, hA, hB, f1, wn1, wg, wl, VX, Nat.reduceEqDiff, Nat.reduceAdd]
      exact hQ _ g' hq' (G.fine hh' (Nat.le_of_lt c1) c2) c1 rfl k12 s13 s14 s15 k16 s17
    · simp only [spec_l01NatDiv_b0, k13, k14, k15, k17, k19, k20, hA, hB, f1, wn1, wg, wl, VX, Nat.reduceEqDiff, Nat.reduceAdd]
      refine ⟨(g', left + v1), hmu g' (nleT hB), hh', hq', nleT hB, hle g' hg', ?_⟩
      exact ⟨rfl, rfl, k12, k16⟩
  · have hA' := nleT hA
    have hgv : g * v0 ≤ 999999999 * 999999999 := Nat.mul_le_mul (Nat.le_of_lt_succ hA') (Nat.le_of_lt_succ lv0)
    have wm : IntKind.i64.wrap ((g : Int) * (v0 : Int)) = ((g * v0 : Nat) : Int) := wrap_mulC (Nat.le_trans hgv (by decide))
    by_cases hT : ((left * 1000000000 + u0 : Nat) : Int) < ((g * v0 : Nat) : Int)
    · obtain ⟨g', hg', wg, hh', hq'⟩ := down (G.too hh (ltC hT))
      by_cases hB : (1000000000 : Int) ≤ ((left + v1 : Nat) : Int)
      · obtain ⟨c1, c2⟩ := G.broken hh' (leT hB)
        simp only [spec_l01NatDiv_b0, k13, k14, k15, k17, k19, k20, hA, hB, hT, f1, f0, e1, e2, wn1, wn2, wi, wi2, ws, wa, wm, wg, wl, VX, Nat.reduceEqDiff, Nat.reduceAdd]
        exact hQ _ g' hq' (G.fine hh' (Nat.le_of_lt c1) c2) c1 rfl k12 s13 s14 s15 k16 s17
      · simp only [spec_l01NatDiv_b0, k13, k14, k15, k17, k19, k20, hA, hB, hT, f1, f0, e1, e2, wn1, wn2, wi, wi2, ws, wa, wm, wg, wl, VX, Nat.reduceEqDiff, Nat.reduceAdd]
        refine ⟨(g', left + v1), hmu g' (nleT hB), hh', hq', nleT hB, hle g' hg', ?_⟩
        exact ⟨rfl, rfl, k12, k16⟩
    · simp only [spec_l01NatDiv_b0, k13, k14, k15, k17, k19, k20, hA, hT, f0, e1, e2, wn2, wi, wi2, ws, wa, wm, VX, Nat.reduceEqDiff, Nat.reduceAdd]
      exact hQ _ g hq (G.fine hh (Nat.le_of_lt hA') (nltC hT)) hA' k19 k12 s13 s14 s15 k16 s17
theorem div_loopT {us0 os0 vs : List Nat} {N m n v1 v0 A s : Nat} {ρ : VEnv} {Q : VQ} (hN : us0.length = N) (hm : m + (n + 2) = N) (hcap : N ≤ 70368744177664) (hud : ∀ d ∈ us0, d < 1000000000) (hvl : vs.length = n + 2) (hvd : ∀ d ∈ vs, d < 1000000000) (f1 : vs[n + 1]? = some v1) (f0 : vs[n]? = some v0) (hpos : 1 ≤ v1)
    (hA : val 1000000000 us0 = A) (hless : val 1000000000 (us0.drop m) < val 1000000000 vs) (hol : os0.length = m) (hod : ∀ d ∈ os0, d < 1000000000)
    (g12 : ρ 12 = VI s) (g13 : ρ 13 = .ref 0 0 0 N N) (g14 : ρ 14 = natL' vs) (g15 : ρ 15 = VI ((n + 2 : Nat) : Int)) (g16 : ρ 16 = .ref 1 0 0 m m) (g17 : ρ 17 = VI ((m : Int) - 1))
    (hQ : ∀ (ρ' : VEnv) (us os : List Nat), ρ' 12 = VI s → ρ' 13 = .ref 0 0 0 N N → ρ' 16 = .ref 1 0 0 m m → us.length = N → (∀ d ∈ us, d < 1000000000) → os.length = m → (∀ d ∈ os, d < 1000000000) → val 1000000000 us + val 1000000000 vs * val 1000000000 os = A → val 1000000000 us < val 1000000000 vs → Q (.exit 0) ρ' (H2 us os)) :
    VW ⟨true, false⟩ 0 (.loop spec_l01NatDiv_b1) Q ρ (H2 us0 os0) := by
  have hVb := val_lt hvd
  rw [hvl] at hVb
  refine VW_loop (fun (t : Nat × List Nat × List Nat) ρ' H => t.1 ≤ m ∧ H = H2 t.2.1 t.2.2 ∧ t.2.1.length = N ∧ (∀ d ∈ t.2.1, d < 1000000000) ∧ t.2.2.length = m ∧ (∀ d ∈ t.2.2, d < 1000000000) ∧ val 1000000000 (t.2.1.drop t.1) < val 1000000000 vs ∧ val 1000000000 t.2.1 + 1000000000 ^ t.1 * val 1000000000 vs * val 1000000000 (t.2.2.drop t.1) = A ∧
    ρ' 12 = VI s ∧ ρ' 13 = .ref 0 0 0 N N ∧ ρ' 14 = natL' vs ∧ ρ' 15 = VI ((n + 2 : Nat) : Int) ∧ ρ' 16 = .ref 1 0 0 m m ∧ ρ' 17 = VI ((t.1 : Int) - 1)) (fun t => t.1) (m, us0, os0) ⟨Nat.le_refl _, rfl, hN, hud, hol, hod, hless, by rw [List.drop_of_length_le (by simp only; omega)]; simpa [val] using hA, g12, g13, g14, g15, g16, g17⟩ ?_
  rintro ⟨j, us, os⟩ ρ2 H ⟨hj, rfl, hul, hud, hol, hod, hlt, hv, k12, k13, k14, k15, k16, k17⟩
  simp only at hj hul hud hol hod hlt hv k17
  by_cases hz : (0 : Int) ≤ (j : Int) - 1
  · obtain ⟨i, rfl⟩ : ∃ i, j = i + 1 := ⟨j - 1, by omega⟩
    have hji : ((i + 1 : Nat) : Int) - 1 = (i : Int) := by omega
    rw [hji] at k17 hz
    obtain ⟨hsplit, hpre, hsl, hsW, hdrop, hpost, hget⟩ := seg_factsT (n := n + 2) hul (by omega) hud hVb hlt
    generalize hseg : (us.drop i).take (n + 2 + 1) = seg at *
    have hsd : ∀ d ∈ seg, d < 1000000000 := fun d hd => by rw [← hseg] at hd; exact hud d (List.mem_of_mem_drop (List.mem_of_mem_take hd))
    obtain ⟨u2, hu2⟩ : ∃ u2, us[i + (n + 2)]? = some u2 := ⟨_, List.getElem?_eq_getElem (by omega)⟩
    obtain ⟨u1, hu1⟩ : ∃ u1, us[i + (n + 1)]? = some u1 := ⟨_, List.getElem?_eq_getElem (by omega)⟩
    obtain ⟨u0, hu0⟩ : ∃ u0, us[i + n]? = some u0 := ⟨_, List.getElem?_eq_getElem (by omega)⟩
    have G : Guess 1000000000 seg vs n u2 u1 u0 v1 v0 := ⟨by decide, hsd, hvd, hsl, hvl, by rw [hget _ (by omega)]; exact hu2, by rw [hget _ (by omega)]; exact hu1, by rw [hget _ (by omega)]; exact hu0, f1, f0, hpos, hsW⟩
    have lu2 := G.lt_u2
    have lu1 := G.lt_u1
    have lv1 := G.lt_v1
    have qlt := G.q_lt
    have vpos := G.vpos
    have w1 : IntKind.i64.wrap ((i : Int) + ((n + 2 : Nat) : Int)) = ((i + (n + 2) : Nat) : Int) := wrapN _ (by omega) (by omega)
    have w2 : IntKind.i64.wrap (((i + (n + 2) : Nat) : Int) - 1) = ((i + (n + 1) : Nat) : Int) := wrapN _ (by omega) (by omega)
    have wn1 : IntKind.i64.wrap (((n + 2 : Nat) : Int) - 1) = ((n + 1 : Nat) : Int) := wrapN _ (by omega) (by omega)
    have ev1 : viaddr 1 (natL' vs) (VI ((n + 1 : Nat) : Int)) (H2 us os) = some (.tptr (tV v1) 0) := viaddr_map (f := tV) (t := .op) (size := 1) (k := .i64) f1 rfl
    have e2 : viaddr 1 (.ref 0 0 0 N N) (VI ((i + (n + 2) : Nat) : Int)) (H2 us os) = some (.ptr 0 0 (i + (n + 2)) 0) := by rw [viaddr_row H2_0 (by omega), Nat.zero_add]
    have e1 : viaddr 1 (.ref 0 0 0 N N) (VI ((i + (n + 1) : Nat) : Int)) (H2 us os) = some (.ptr 0 0 (i + (n + 1)) 0) := by rw [viaddr_row H2_0 (by omega), Nat.zero_add]
    have l2 : vload false 1 (.ptr 0 0 (i + (n + 2)) 0) (H2 us os) = some (VI (u2 : Int)) := vloadT H2_0 hu2
    have l1 : vload false 1 (.ptr 0 0 (i + (n + 1)) 0) (H2 us os) = some (VI (u1 : Int)) := vloadT H2_0 hu1
    have hx18 : u2 * 1000000000 + u1 ≤ 1000000000000000000 := x18 lu2 lu1
    have hx17 : u2 * 1000000000 ≤ 9223372036854775807 := x17 lu2
    have hx19 : u2 * 1000000000 + u1 ≤ 9223372036854775807 := Nat.le_trans hx18 (by decide)
    have ws2 : IntKind.i64.wrap ((u2 : Int) * 1000000000) = ((u2 * 1000000000 : Nat) : Int) := wrap_mulT hx17
    have wa : IntKind.i64.wrap (((u2 * 1000000000 : Nat) : Int) + (u1 : Int)) = ((u2 * 1000000000 + u1 : Nat) : Int) := wrap_addC hx19
    have q1 := quo_i64 (u2 * 1000000000 + u1) v1 hx19 hpos
    have q2 := remN_i64 (u2 * 1000000000 + u1) v1 hpos
    simp only [spec_l01NatDiv_b1, k12, k13, k14, k15, k16, k17, hz, w1, w2, wn1, ev1, e1, e2, l1, l2, ws2, wa, q1, q2, VX, Nat.reduceEqDiff, Nat.reduceAdd]
    clear ws2 wa q1 q2 e1 e2 l1 l2 ev1 w1 w2 wn1
    have hh := Nat.mod_add_div (u2 * 1000000000 + u1) v1
    have hml := Nat.mod_lt (u2 * 1000000000 + u1) hpos
    have hdl : (u2 * 1000000000 + u1) / v1 ≤ u2 * 1000000000 + u1 := Nat.div_le_self _ _
    have hq0 : val 1000000000 seg / val 1000000000 vs ≤ (u2 * 1000000000 + u1) / v1 := by
      have t1 := (val_top2 (n := n + 1) (xs := seg) hsd (by omega) (by rw [hget _ (by omega)]; exact hu2) (by rw [hget _ (by omega)]; exact hu1)).2
      have t2 := (val_top (n := n + 1) hvd hvl f1).1
      rw [Nat.le_div_iff_mul_le hpos]
      have t3 : val 1000000000 seg / val 1000000000 vs * (v1 * 1000000000 ^ (n + 1)) ≤ val 1000000000 seg / val 1000000000 vs * val 1000000000 vs := Nat.mul_le_mul_left _ t2
      have t4 := Nat.div_mul_le_self (val 1000000000 seg) (val 1000000000 vs)
      have t5 : val 1000000000 seg / val 1000000000 vs * v1 * 1000000000 ^ (n + 1) < (u2 * 1000000000 + u1 + 1) * 1000000000 ^ (n + 1) := by rw [Nat.mul_assoc]; omega
      have := Nat.lt_of_mul_lt_mul_right t5
      omega
    generalize hQ1 : (u2 * 1000000000 + u1) / v1 = g0 at *
    generalize hQ2 : (u2 * 1000000000 + u1) % v1 = l0 at *
    refine guess_loopT (i := i) G hul (by omega) hcap hu0 k13 k14 k15 k17 (by rfl) (by rfl) (by rw [Nat.mul_comm g0]; omega) hq0 (by omega) (by omega) ?_
    intro ρ3 g' hq hq' hgW r19 r12 r13 r14 r15 r16 r17
    have r12' : ρ3 12 = VI s := r12.trans k12
    have r13' : ρ3 13 = .ref 0 0 0 N N := r13.trans k13
    have r14' : ρ3 14 = natL' vs := r14.trans k14
    have r15' : ρ3 15 = VI ((n + 2 : Nat) : Int) := r15.trans k15
    have r16' : ρ3 16 = .ref 1 0 0 m m := r16.trans k16
    have r17' : ρ3 17 = VI i := r17.trans k17
    simp only [r12', r13', r14', r15', r16', r17', r19, VX, Nat.reduceEqDiff, Nat.reduceAdd]
    have hfit : g' * val 1000000000 vs ≤ val 1000000000 seg + val 1000000000 vs := by
      have := Nat.mul_le_mul_right (val 1000000000 vs) hq'
      rw [Nat.add_mul, Nat.one_mul] at this
      have := Nat.div_mul_le_self (val 1000000000 seg) (val 1000000000 vs)
      omega
    -- the segment: its lower digits, its top
    obtain ⟨low, hlow⟩ : ∃ low, low = seg.take (n + 2) := ⟨_, rfl⟩
    have hll : low.length = n + 2 := by rw [hlow, List.length_take]; omega
    have hld : ∀ d ∈ low, d < 1000000000 := fun d hd => hsd d (by rw [hlow] at hd; exact List.mem_of_mem_take hd)
    have hsg : seg = low ++ [u2] := by
      have h1 : seg[n + 2]? = some u2 := by rw [hget _ (by omega)]; exact hu2
      have h2 := List.take_append_drop (n + 2) seg
      have h3 := (List.getElem?_eq_some_iff.1 h1)
      rw [List.drop_eq_getElem_cons h3.1, h3.2, List.drop_of_length_le (by omega), ← hlow] at h2
      exact h2.symm
    have hvs : val 1000000000 seg = val 1000000000 low + 1000000000 ^ (n + 2) * u2 := by rw [hsg, val_snoc, hll]
    have hrow : ∀ (lw : List Nat) (t : Nat), (us.take i).map tV ++ lw.map tV ++ VI (t : Int) :: (us.drop (i + (n + 2 + 1))).map tV = (us.take i ++ (lw ++ [t]) ++ us.drop (i + (n + 2 + 1))).map tV := fun lw t => by simp
    have hr0 : vrow (H2 us os) 0 0 = some ((us.take i).map tV ++ low.map tV ++ VI (u2 : Int) :: (us.drop (i + (n + 2 + 1))).map tV, 1, true) := by
      rw [hrow, ← hsg, ← hsplit]
      rfl
    refine vcall_raw rfl ((takeOff_v (o := i) (n := n + 2) hr0 (Nat.zero_le _) (by simpa using hpre) hll hvl (by omega) hcap hld hvd hgW lu2).mono ?_)
    rintro r H' ⟨low', c, rfl, hl', hd', hc, hr, hE⟩
    have hPlow : val 1000000000 low < 1000000000 ^ (n + 2) := by have := val_lt hld; rwa [hll] at this
    have hPlow' : val 1000000000 low' < 1000000000 ^ (n + 2) := by have := val_lt hd'; rwa [hl'] at this
    -- the rows behind a digit
    have rows : ∀ (lw : List Nat) (t q : Nat), lw.length = n + 2 → (∀ d ∈ lw, d < 1000000000) → t < 1000000000 → q = val 1000000000 seg / val 1000000000 vs → val 1000000000 lw + 1000000000 ^ (n + 2) * t = val 1000000000 seg % val 1000000000 vs →
        ((us.take i ++ (lw ++ [t]) ++ us.drop (i + (n + 2 + 1))).length = N ∧ (∀ d ∈ us.take i ++ (lw ++ [t]) ++ us.drop (i + (n + 2 + 1)), d < 1000000000) ∧ val 1000000000 ((us.take i ++ (lw ++ [t]) ++ us.drop (i + (n + 2 + 1))).drop i) < val 1000000000 vs ∧ val 1000000000 (us.take i ++ (lw ++ [t]) ++ us.drop (i + (n + 2 + 1))) + 1000000000 ^ i * val 1000000000 vs * val 1000000000 ((os.set i q).drop i) = A) := by
      intro lw t q hlw hlwd ht hqe hse
      have hseg' : val 1000000000 (lw ++ [t]) = val 1000000000 seg % val 1000000000 vs := by rw [val_snoc, hlw]; exact hse
      have hsl' : (lw ++ [t]).length = n + 3 := by rw [List.length_append, hlw]; rfl
      have hsd' : ∀ d ∈ lw ++ [t], d < 1000000000 := fun d hd => by
        rcases List.mem_append.1 hd with h | h
        · exact hlwd d h
        · rw [List.mem_singleton.1 h]; exact ht
      generalize lw ++ [t] = seg' at *
      have hml2 := Nat.mod_lt (val 1000000000 seg) vpos
      have hdrop' : (us.take i ++ seg' ++ us.drop (i + (n + 2 + 1))).drop i = seg' ++ us.drop (i + (n + 2 + 1)) := by rw [List.append_assoc, List.drop_append, List.drop_of_length_le (by omega), hpre]; simp
      have htake' : (us.take i ++ seg' ++ us.drop (i + (n + 2 + 1))).take i = us.take i := by rw [List.append_assoc, List.take_append_of_le_length (by omega), List.take_of_length_le (by omega)]
      have hval' : val 1000000000 ((us.take i ++ seg' ++ us.drop (i + (n + 2 + 1))).drop i) = val 1000000000 seg' := by rw [hdrop', val_append, hpost, Nat.mul_zero, Nat.add_zero]
      refine ⟨by rw [List.length_append, List.length_append, hpre, hsl', List.length_drop]; omega, fun d hd => ?_, by rw [hval', hseg']; exact hml2, ?_⟩
      · rw [List.mem_append, List.mem_append] at hd
        rcases hd with (hd | hd) | hd
        · exact hud d (List.mem_of_mem_take hd)
        · exact hsd' d hd
        · exact hud d (List.mem_of_mem_drop hd)
      · have h1 := Nat.div_add_mod (val 1000000000 seg) (val 1000000000 vs)
        rw [← hqe, ← hseg', Nat.mul_comm] at h1
        have h2 := val_split (b := 1000000000) us i
        have h3 := val_split (b := 1000000000) (us.take i ++ seg' ++ us.drop (i + (n + 2 + 1))) i
        rw [htake', hpre, hval'] at h3
        rw [hpre, hdrop] at h2
        rw [set_drop (by omega), val_cons, h3]
        rw [h2, Nat.pow_succ] at hv
        exact digit_step h1.symm hv
    have e3 : ∀ (us' : List Nat) (d : Nat), viaddr 1 (.ref 1 0 0 m m) (VI i) (H2 us' os) = some (.ptr 1 0 i 0) ∧ vstore 0 1 (.ptr 1 0 i 0) (VI (d : Int)) (H2 us' os) = some (H2 us' (os.set i d)) := fun us' d => by
      refine ⟨by rw [viaddr_row H2_1 (by omega), Nat.zero_add], ?_⟩
      rw [show VI (d : Int) = tV d from rfl, vstore_map (f := tV) (e := 1) H2_1 (by omega) (Nat.zero_le _) rfl rfl]
      rfl
    have wi : IntKind.i64.wrap ((i : Int) - 1) = (i : Int) - 1 := wrap64 (by omega) (by omega)
    have hdm := Nat.div_add_mod (val 1000000000 seg) (val 1000000000 vs)
    have hml2 := Nat.mod_lt (val 1000000000 seg) vpos
    generalize hPP : 1000000000 ^ (n + 2) = P at *
    by_cases hneg : (u2 : Int) - (c : Int) < 0
    · -- too much: put back
      rw [decide_eq_true hneg] at hr
      subst hr
      have hgt : val 1000000000 seg < g' * val 1000000000 vs := by
        have h1 : P * (u2 + 1) ≤ P * c := Nat.mul_le_mul_left _ (by omega)
        rw [Nat.mul_add, Nat.mul_one] at h1
        omega
      have hqe : g' = val 1000000000 seg / val 1000000000 vs + 1 := by
        rcases Nat.lt_or_ge (val 1000000000 seg / val 1000000000 vs) g' with h | h
        · omega
        · have h1 : g' * val 1000000000 vs ≤ val 1000000000 seg / val 1000000000 vs * val 1000000000 vs := Nat.mul_le_mul_right _ h
          have := Nat.div_mul_le_self (val 1000000000 seg) (val 1000000000 vs)
          omega
      have hg1 : 1 ≤ g' := by rw [hqe]; exact Nat.le_add_left 1 _
      have wg : IntKind.i64.wrap ((g' : Int) - 1) = ((g' - 1 : Nat) : Int) := wrapN _ (by omega) (by omega)
      simp only [r12', r13', r14', r15', r16', r17', r19, wg, VX, Nat.reduceEqDiff, Nat.reduceAdd]
      have hr1 : vrow ((H2 us os).set 0 (.row 0 ((us.take i).map tV ++ low'.map tV ++ VI ((u2 : Int) - (c : Int)) :: (us.drop (i + (n + 2 + 1))).map tV) 1 true)) 0 0 = some ((us.take i).map tV ++ low'.map tV ++ VI ((u2 : Int) - (c : Int)) :: (us.drop (i + (n + 2 + 1))).map tV, 1, true) := rfl
      refine vcall_raw rfl ((putBack_v (o := i) (n := n + 2) hr1 (Nat.zero_le _) (by simpa using hpre) hl' hvl (by omega) hcap hd' hvd (by omega) (by omega)).mono ?_)
      rintro r H' ⟨low2, c2, rfl, hl2, hd2, hc2, hE2⟩
      rw [hPP] at hE2
      have hPlow2 : val 1000000000 low2 < P := by have := val_lt hd2; rwa [hl2, hPP] at this
      obtain ⟨hy, hZ⟩ : (u2 : Int) - (c : Int) + (c2 : Int) = 0 ∧ val 1000000000 low2 = val 1000000000 seg % val 1000000000 vs := by
        refine int_top (P := P) ?_ hPlow2 (by omega)
        have i1 : (P : Int) * ((u2 : Int) - (c : Int) + (c2 : Int)) = (P : Int) * u2 - (P : Int) * c + (P : Int) * c2 := by rw [Int.mul_add, Int.mul_sub]
        have i2 : ((P * u2 : Nat) : Int) = (P : Int) * u2 := by simp
        have i3 : ((P * c : Nat) : Int) = (P : Int) * c := by simp
        have i4 : ((P * c2 : Nat) : Int) = (P : Int) * c2 := by simp
        rw [i1, ← i2, ← i3, ← i4]
        have i5 : g' * val 1000000000 vs = val 1000000000 vs * (val 1000000000 seg / val 1000000000 vs) + val 1000000000 vs := by rw [hqe, Nat.add_mul, Nat.one_mul, Nat.mul_comm (val 1000000000 vs)]
        omega
      have hset : ((H2 us os).set 0 (.row 0 ((us.take i).map tV ++ low'.map tV ++ VI ((u2 : Int) - (c : Int)) :: (us.drop (i + (n + 2 + 1))).map tV) 1 true)).set 0 (.row 0 ((us.take i).map tV ++ low2.map tV ++ VI ((u2 : Int) - (c : Int) + (c2 : Int)) :: (us.drop (i + (n + 2 + 1))).map tV) 1 true) = H2 (us.take i ++ (low2 ++ [0]) ++ us.drop (i + (n + 2 + 1))) os := by
        rw [hy]
        rw [show (0 : Int) = ((0 : Nat) : Int) from rfl, hrow]
        rfl
      rw [hset]
      obtain ⟨x1, x2⟩ := e3 (us.take i ++ (low2 ++ [0]) ++ us.drop (i + (n + 2 + 1))) (g' - 1)
      obtain ⟨y1, y2, y3, y4⟩ := rows low2 0 (g' - 1) hl2 hd2 (by decide) (by rw [hqe, Nat.add_sub_cancel]) (by rw [Nat.mul_zero, Nat.add_zero]; exact hZ)
      simp only [r12', r13', r14', r15', r16', r17', x1, x2, wi, VX, Nat.reduceEqDiff, Nat.reduceAdd]
      refine ⟨(i, us.take i ++ (low2 ++ [0]) ++ us.drop (i + (n + 2 + 1)), os.set i (g' - 1)), by simp only; omega, by omega, rfl, y1, y2, by rw [List.length_set]; exact hol, set_lt hod (by omega), y3, y4, ?_⟩
      try (repeat' apply And.intro) <;> first | rfl | trivial
    · rw [decide_eq_false hneg] at hr
      subst hr
      obtain ⟨t', ht'⟩ : ∃ t' : Nat, (u2 : Int) - (c : Int) = (t' : Int) := ⟨u2 - c, by omega⟩
      have hP1 : P * u2 = P * c + P * t' := by rw [← Nat.mul_add]; congr 1; omega
      have hge : g' * val 1000000000 vs ≤ val 1000000000 seg := by omega
      have hqe : g' = val 1000000000 seg / val 1000000000 vs := by
        have := (Nat.le_div_iff_mul_le vpos).2 hge
        omega
      have hset : (H2 us os).set 0 (.row 0 ((us.take i).map tV ++ low'.map tV ++ VI ((u2 : Int) - (c : Int)) :: (us.drop (i + (n + 2 + 1))).map tV) 1 true) = H2 (us.take i ++ (low' ++ [t']) ++ us.drop (i + (n + 2 + 1))) os := by
        rw [ht', hrow]
        rfl
      rw [hset]
      obtain ⟨x1, x2⟩ := e3 (us.take i ++ (low' ++ [t']) ++ us.drop (i + (n + 2 + 1))) g'
      have hse : val 1000000000 low' + P * t' = val 1000000000 seg % val 1000000000 vs := by
        rw [← hqe, Nat.mul_comm] at hdm
        omega
      obtain ⟨y1, y2, y3, y4⟩ := rows low' t' g' hl' hd' (by omega) hqe hse
      simp only [r12', r13', r14', r15', r16', r17', r19, x1, x2, wi, VX, Nat.reduceEqDiff, Nat.reduceAdd]
      refine ⟨(i, us.take i ++ (low' ++ [t']) ++ us.drop (i + (n + 2 + 1)), os.set i g'), by simp only; omega, by omega, rfl, y1, y2, by rw [List.length_set]; exact hol, set_lt hod (by omega), y3, y4, ?_⟩
      try (repeat' apply And.intro) <;> first | rfl | trivial
  · have hj0 : j = 0 := by omega
    subst hj0
    rw [Nat.pow_zero, Nat.one_mul, List.drop_zero] at hv
    rw [List.drop_zero] at hlt
    simp only [spec_l01NatDiv_b1, k12, k13, k14, k15, k16, k17, hz, VX, Nat.reduceEqDiff, Nat.reduceAdd]
    exact hQ _ us os k12 k13 k16 hul hud hol hod hv hlt
end Go.PM

/- Fractions: plain laws of their parts, and of how many bits these have. -/
namespace Go.PM
def bl (n : Nat) : Nat := (digs 2 n).length
theorem bl_lt (n : Nat) : n < 2 ^ bl n := digs_len_lt (by decide) n
theorem bl_le {n k : Nat} (h : n < 2 ^ k) : bl n ≤ k := digs_len_le (by decide) h
theorem bl_mono {m n : Nat} (h : m ≤ n) : bl m ≤ bl n := digs_len_mono (by decide) h
theorem bl_zero : bl 0 = 0 := by simp [bl, digs_zero]
theorem bl_one : bl 1 = 1 := by simp [bl, digs_pos (b := 2) (by decide) (n := 1) (by decide), digs_zero]
theorem bl_pos {n : Nat} (h : n ≠ 0) : 1 ≤ bl n := by
  have := bl_mono (m := 1) (n := n) (by omega)
  rwa [bl_one] at this
theorem len_W (n : Nat) : 32 * (digs 4294967296 n).length ≤ bl n + 31 := by
  by_cases h : n = 0
  · subst h; rw [digs_zero]; simp
  · have h1 := digs_ge (b := 4294967296) (by decide) h
    have h2 := bl_lt n
    have e : (4294967296 : Nat) = 2 ^ 32 := by decide
    rw [e] at h1 ⊢
    rw [← Nat.pow_mul] at h1
    have h3 : 2 ^ (32 * ((digs (2 ^ 32) n).length - 1)) < 2 ^ bl n := by omega
    have h4 := (Nat.pow_lt_pow_iff_right (by decide)).1 h3
    omega
theorem len_T (n : Nat) : 29 * (digs 1000000000 n).length ≤ bl n + 28 := by
  by_cases h : n = 0
  · subst h; rw [digs_zero]; simp
  · have h1 := digs_ge (b := 1000000000) (by decide) h
    have h2 := bl_lt n
    have h5 : (2 ^ 29) ^ ((digs 1000000000 n).length - 1) ≤ 1000000000 ^ ((digs 1000000000 n).length - 1) := Nat.pow_le_pow_left (by decide) _
    rw [← Nat.pow_mul] at h5
    have h3 : 2 ^ (29 * ((digs 1000000000 n).length - 1)) < 2 ^ bl n := by omega
    have h4 := (Nat.pow_lt_pow_iff_right (by decide)).1 h3
    omega
def rbits (q : Rat) : Nat := max (bl q.num.natAbs) (bl q.den)
theorem rbits_num {q : Rat} : bl q.num.natAbs ≤ rbits q := Nat.le_max_left _ _
theorem rbits_den {q : Rat} : bl q.den ≤ rbits q := Nat.le_max_right _ _
theorem rbits_of {q : Rat} {k : Nat} (h1 : bl q.num.natAbs ≤ k) (h2 : bl q.den ≤ k) : rbits q ≤ k := Nat.max_le.2 ⟨h1, h2⟩
theorem rbits_mk {n : Int} {d k : Nat} (h1 : bl n.natAbs ≤ k) (h2 : bl d ≤ k) (hk : 1 ≤ k) : rbits (mkRat n d) ≤ k := by
  refine rbits_of ?_ ?_
  · rw [Rat.num_mkRat]
    split
    · rw [Int.natAbs_zero, bl_zero]; omega
    · exact Nat.le_trans (bl_mono (Int.natAbs_ediv_le_natAbs _ _)) h1
  · rw [Rat.den_mkRat]
    split
    · rw [bl_one]; exact hk
    · exact Nat.le_trans (bl_mono (Nat.div_le_self _ _)) h2
/-! ### parts -/
def sgn (neg : Bool) (t : Nat) : Int := if neg then -(t : Int) else t
theorem sgn_abs (neg : Bool) (t : Nat) : (sgn neg t).natAbs = t := by cases neg <;> simp [sgn]
theorem sgn_neg {neg : Bool} {t : Nat} : sgn neg t < 0 ↔ neg = true ∧ t ≠ 0 := by cases neg <;> simp [sgn] <;> omega
theorem sgn_zero (neg : Bool) : sgn neg 0 = 0 := by cases neg <;> rfl
theorem sgn_dvd {neg : Bool} {t g : Nat} : (sgn neg t) / (g : Int) = sgn neg (t / g) ∨ ¬ g ∣ t := by
  by_cases h : g ∣ t
  · left
    obtain ⟨k, rfl⟩ := h
    by_cases hg : g = 0
    · subst hg; simp [sgn_zero]
    · rw [Nat.mul_div_cancel_left _ (by omega)]
      cases neg
      · simp only [sgn]
        simp only [Bool.false_eq_true, if_false]
        rw [Int.natCast_mul, Int.mul_ediv_cancel_left _ (by omega)]
      · simp only [sgn, if_true]
        rw [Int.natCast_mul, ← Int.mul_neg, Int.mul_ediv_cancel_left _ (by omega)]
  · exact .inr h
theorem mk_num {neg : Bool} {t b : Nat} (hb : b ≠ 0) : (mkRat (sgn neg t) b).num = sgn neg (t / Nat.gcd t b) := by
  rw [Rat.num_mkRat, if_neg hb, sgn_abs, Nat.gcd_comm]
  rcases sgn_dvd (neg := neg) (t := t) (g := Nat.gcd t b) with h | h
  · exact h
  · exact absurd (Nat.gcd_dvd_left _ _) h
theorem mk_den {neg : Bool} {t b : Nat} (hb : b ≠ 0) : (mkRat (sgn neg t) b).den = b / Nat.gcd t b := by
  rw [Rat.den_mkRat, if_neg hb, sgn_abs, Nat.gcd_comm]
end Go.PM

/- Fractions: plain laws of sums, products and comparisons by parts. -/
namespace Go.PM
/-! ### comparing -/
theorem cmpI_lt {m n : Nat} : cmpI m n < 0 ↔ m < n := by
  unfold cmpI
  split
  · omega
  · split <;> omega
theorem cmpI_zero {m n : Nat} : cmpI m n = 0 ↔ m = n := by
  unfold cmpI
  split
  · omega
  · split <;> omega
end Go.PM

/- The reference's numbers of at least 0: quotient and remainder; the greatest common divisor. -/
namespace Go.PM
theorem srcT_list {ds : List Nat} {H : VHeap} : vsource 1 (natL' ds) H = some (ds.map tV) := by
  have : ((ds.map tV).all fun x => (vcells x).length == 1 && (vcells x).all vscal) = true := by
    rw [List.all_eq_true]
    intro x hx
    obtain ⟨d, _, rfl⟩ := List.mem_map.1 hx
    rfl
  simp only [vsource, natL', listV, this, if_true]
theorem srcT_natT (n : Nat) {H : VHeap} : vsource 1 (natT n) H = some ((digs 1000000000 n).map tV) := srcT_list
theorem digsT_top {a n : Nat} (hn : (digs 1000000000 a).length = n + 1) : ∃ d, (digs 1000000000 a)[n]? = some d ∧ d ≠ 0 ∧ d < 1000000000 := by
  obtain ⟨d, hd⟩ : ∃ d, (digs 1000000000 a)[n]? = some d := ⟨_, List.getElem?_eq_getElem (by omega)⟩
  refine ⟨d, hd, fun h0 => ?_, digs_lt (by decide) a d (List.mem_of_getElem? hd)⟩
  have := digs_last (b := 1000000000) (by decide) a
  rw [List.getLast?_eq_getElem?, hn, Nat.add_sub_cancel, hd, h0] at this
  exact this rfl
theorem digsT_one {a d : Nat} (h : digs 1000000000 a = [d]) : a = d ∧ 0 < d ∧ d < 1000000000 := by
  have h1 := val_digs (b := 1000000000) (by decide) a
  rw [h, val_one] at h1
  obtain ⟨e, h2, h3, h4⟩ := digsT_top (a := a) (n := 0) (by rw [h]; rfl)
  rw [h] at h2
  cases h2
  exact ⟨h1.symm, by omega, h4⟩
theorem smallT {a : Nat} (h : (digs 1000000000 a).length ≤ 2) : a < 1000000000000000000 := by
  have h1 := digs_len_lt (b := 1000000000) (by decide) a
  have h2 : 1000000000 ^ (digs 1000000000 a).length ≤ 1000000000 ^ 2 := Nat.pow_le_pow_right (by decide) h
  omega
theorem fz_tup2p {H : VHeap} {u v : VV} (hu : pureV u = true) (hv : pureV v = true) : fz depth H (.tup [u, v]) = some (.tup [u, v]) := fz_res (by simp only [pureV, pureL, hu, hv, Bool.and_self])
theorem copyT {X N : Nat} (h : (digs 1000000000 X).length ≤ N) : vcopy 0 1 (.ref 0 0 0 N N) (natT X) [.row 0 ((List.replicate N 0).map tV) 1 true] = some (VI ((digs 1000000000 X).length : Int), [.row 0 ((digs 1000000000 X ++ List.replicate (N - (digs 1000000000 X).length) 0).map tV) 1 true]) := by
  have e : ((digs 1000000000 X).map tV).take N = (digs 1000000000 X).map tV := List.take_of_length_le (by simpa using h)
  simp only [vcopy, natT, srcT_list, vrow_zero, e, List.length_map, List.length_replicate, Nat.zero_add]
  rw [if_pos ⟨trivial, Nat.le_refl _, h⟩]
  simp only [vsplice, List.set_cons_zero, List.take_zero, List.nil_append, Nat.zero_add, List.length_map, List.map_append, List.map_replicate, List.drop_replicate]
theorem spec_l01NatDiv_v (a b : Nat) (hb : b ≠ 0) (ha : (digs 1000000000 a).length < 17592186044416) (hbl : (digs 1000000000 b).length < 17592186044416) : TC 41 [natT a, natT b] (.tup [natT (a / b), natT (a % b)]) := by
  refine TC.walk ⟨true, false⟩ spec_l01NatDiv_t rfl (Nat.le_of_ble_eq_true rfl) (by simp [pureL, natT_pure]) (by simp [resV, resL, natT_res]) ?_
  have s1 := spec_l01Small_v a (by omega)
  have s2 := spec_l01Small_v b (by omega)
  have fin : ∀ {H : VHeap}, fz depth H (.tup [natT (a / b), natT (a % b)]) = some (.tup [natT (a / b), natT (a % b)]) := fz_tup2p (natT_pure _) (natT_pure _)
  by_cases hsm : (digs 1000000000 a).length ≤ 2 ∧ (digs 1000000000 b).length ≤ 2
  · rw [if_pos hsm.1] at s1
    rw [if_pos hsm.2] at s2
    have la := smallT hsm.1
    have q1 := quo_i64 a b (by omega) (by omega)
    have q2 := remN_i64 a b (by omega)
    have hdl : a / b ≤ a := Nat.div_le_self _ _
    have hml : a % b ≤ a := Nat.mod_le _ _
    have n1 : TC 42 [VI ((a / b : Nat) : Int)] (natT (a / b)) := spec_l01Nat_v ((a / b : Nat) : Int) (Int.ofNat_le.2 (show a / b ≤ 9223372036854775807 from Nat.le_trans hdl (by omega)))
    have n2 : TC 42 [VI ((a % b : Nat) : Int)] (natT (a % b)) := spec_l01Nat_v ((a % b : Nat) : Int) (Int.ofNat_le.2 (show a % b ≤ 9223372036854775807 from Nat.le_trans hml (by omega)))
    simp only [spec_l01NatDiv, spec_l01NatDiv_c, s1, s2, q1, q2, n1, n2, VX, Nat.reduceEqDiff, Nat.reduceAdd]
    exact fin
  have c1 := spec_l01Cmp_v a b (by omega) (by omega)
  -- what the two looks at small numbers come to does not matter
  obtain ⟨x1, t1, hs1⟩ : ∃ (x : Int) (t : Bool), (if (digs 1000000000 a).length ≤ 2 then VV.tup [VI a, VB true] else .tup [VI 0, VB false]) = .tup [VI x, VB t] := by split <;> exact ⟨_, _, rfl⟩
  have hs2 : ∃ (x : Int) (t : Bool), (if (digs 1000000000 b).length ≤ 2 then VV.tup [VI b, VB true] else .tup [VI 0, VB false]) = .tup [VI x, VB t] ∧ (t1 = true → t = false) := by
    by_cases h : (digs 1000000000 b).length ≤ 2
    · rw [if_pos h]
      refine ⟨_, _, rfl, fun ht => ?_⟩
      rw [if_neg (fun h' => hsm ⟨h', h⟩)] at hs1
      injection hs1 with hs1
      injection hs1 with _ hs1
      injection hs1 with hs1 _
      injection hs1 with hs1
      injection hs1 with hs1
      subst ht
      cases hs1
    · rw [if_neg h]
      exact ⟨_, _, rfl, fun _ => rfl⟩
  obtain ⟨x2, t2, hs2, ht⟩ := hs2
  rw [hs1] at s1
  rw [hs2] at s2
  by_cases hab : cmpI a b < 0
  · have hlt : a < b := cmpI_lt.1 hab
    have e0 : ∀ lr, vlit lr [.int .i64 0] 0 [] [] = some (.ref 0 0 0 0 0, [.row 0 [] 1 true]) := fun lr => vlit_nil (H := []) rfl
    have e1 : ∀ lr, vlit lr [.int .i64 0] 0 [] [.row 0 [] 1 true] = some (.ref 1 0 0 0 0, [.row 0 [] 1 true, .row 0 [] 1 true]) := fun lr => vlit_nil (H := [.row 0 [] 1 true]) rfl
    rw [Nat.div_eq_of_lt hlt, Nat.mod_eq_of_lt hlt]
    have hz : fz (6 + 1) [.row 0 [] 1 true, .row 0 [] 1 true] (.ref 0 0 0 0 0) = some (natT 0) := by rw [natT_zero]; rfl
    by_cases ha0 : a = 0
    · subst ha0
      have ap : vappend 0 1 8 (.ref 1 0 0 0 0) ((digs 1000000000 0).map tV) [.row 0 [] 1 true, .row 0 [] 1 true] = some (.ref 1 0 0 0 0, [.row 0 [] 1 true, .row 0 [] 1 true]) := by
        rw [digs_zero]; rfl
      have hz1 : fz (6 + 1) [.row 0 [] 1 true, .row 0 [] 1 true] (.ref 1 0 0 0 0) = some (natT 0) := by rw [natT_zero]; rfl
      cases t1 with
      | false =>
        simp only [spec_l01NatDiv, spec_l01NatDiv_c, s1, s2, c1, hab, e0, e1, ap, srcT_natT, VX, Nat.reduceEqDiff, Nat.reduceAdd]
        exact fz_tup2 (d := 6) hz hz1
      | true =>
        rw [ht rfl] at s2
        simp only [spec_l01NatDiv, spec_l01NatDiv_c, s1, s2, c1, hab, e0, e1, ap, srcT_natT, VX, Nat.reduceEqDiff, Nat.reduceAdd]
        exact fz_tup2 (d := 6) hz hz1
    · have hln : (digs 1000000000 a).length ≠ 0 := fun h => ha0 ((digs_nil (b := 1000000000) (by decide)).1 (List.length_eq_zero_iff.1 h))
      have ap : vappend 0 1 8 (.ref 1 0 0 0 0) ((digs 1000000000 a).map tV) [.row 0 [] 1 true, .row 0 [] 1 true] = some (.ref 1 1 0 (digs 1000000000 a).length (digs 1000000000 a).length, [.row 0 [] 1 true, .row 1 ((digs 1000000000 a).map tV) 1 true]) := by
        have hr : vrow [.row 0 [] 1 true, .row 0 [] 1 true] 1 0 = some ([], 1, true) := rfl
        simp only [vappend, hr, List.length_map, Nat.zero_add, List.length_nil, Nat.add_zero]
        rw [if_pos ⟨by decide, by decide⟩, if_pos ⟨trivial, Nat.zero_le _, Nat.le_refl _⟩, if_neg (by omega), if_pos (by omega)]
        simp
      have hz0 : fz (6 + 1) [.row 0 [] 1 true, .row 1 ((digs 1000000000 a).map tV) 1 true] (.ref 0 0 0 0 0) = some (natT 0) := by rw [natT_zero]; rfl
      have hz1 : fz (6 + 1) [.row 0 [] 1 true, .row 1 ((digs 1000000000 a).map tV) 1 true] (.ref 1 1 0 (digs 1000000000 a).length (digs 1000000000 a).length) = some (natT a) := by
        have : pureV (.ref 1 1 0 (digs 1000000000 a).length (digs 1000000000 a).length) = false := rfl
        have hr : vrow [.row 0 [] 1 true, .row 1 ((digs 1000000000 a).map tV) 1 true] 1 1 = some ((digs 1000000000 a).map tV, 1, true) := rfl
        unfold fz
        simp only [this, hr, Bool.false_eq_true, if_false]
        rw [if_pos ⟨by simp, Nat.le_refl _⟩, List.drop_zero, List.take_of_length_le (by simp), mapM_pure (n := 5) (pure_map fun _ => rfl)]
        rfl
      cases t1 with
      | false =>
        simp only [spec_l01NatDiv, spec_l01NatDiv_c, s1, s2, c1, hab, e0, e1, ap, srcT_natT, VX, Nat.reduceEqDiff, Nat.reduceAdd]
        exact fz_tup2 (d := 6) hz0 hz1
      | true =>
        rw [ht rfl] at s2
        simp only [spec_l01NatDiv, spec_l01NatDiv_c, s1, s2, c1, hab, e0, e1, ap, srcT_natT, VX, Nat.reduceEqDiff, Nat.reduceAdd]
        exact fz_tup2 (d := 6) hz0 hz1
  have hge : b ≤ a := by have := @cmpI_lt a b; omega
  have hbn : (digs 1000000000 b).length ≠ 0 := fun h => hb ((digs_nil (b := 1000000000) (by decide)).1 (List.length_eq_zero_iff.1 h))
  by_cases h1 : (((digs 1000000000 b).length : Nat) : Int) = 1
  · obtain ⟨d, hd⟩ : ∃ d, digs 1000000000 b = [d] := List.length_eq_one_iff.1 (by omega)
    obtain ⟨hbd, hd0, hdT⟩ := digsT_one hd
    have e1 : viaddr 1 (natT b) (VI 0) [] = some (.tptr (tV d) 0) := by
      rw [natT, hd]
      exact viaddr_map (f := tV) (t := .op) (H := []) (size := 1) (k := .i64) (xs := [d]) (i := 0) rfl rfl
    have c2 := spec_l01ShortDiv_v a d hd0 hdT (by omega)
    rw [← hbd] at c2
    have hmb : a % b ≤ b := Nat.le_of_lt (Nat.mod_lt _ (by omega))
    have n2 : TC 42 [VI ((a % b : Nat) : Int)] (natT (a % b)) := spec_l01Nat_v ((a % b : Nat) : Int) (Int.ofNat_le.2 (show a % b ≤ 9223372036854775807 from Nat.le_trans hmb (by omega)))
    have e2 : tV d = tV b := by rw [hbd]
    rw [e2] at e1
    cases t1 with
    | false =>
      simp only [spec_l01NatDiv, spec_l01NatDiv_c, s1, s2, c1, hab, len_natT, h1, e1, c2, n2, VX, Nat.reduceEqDiff, Nat.reduceAdd]
      exact fin
    | true =>
      rw [ht rfl] at s2
      simp only [spec_l01NatDiv, spec_l01NatDiv_c, s1, s2, c1, hab, len_natT, h1, e1, c2, n2, VX, Nat.reduceEqDiff, Nat.reduceAdd]
      exact fin
  -- two digits or more
  obtain ⟨n, hn⟩ : ∃ n, (digs 1000000000 b).length = n + 2 := ⟨(digs 1000000000 b).length - 2, by omega⟩
  obtain ⟨t, htd, ht0, htT⟩ := digsT_top (a := b) (n := n + 1) hn
  obtain ⟨s, hs⟩ : ∃ s, s = 1000000000 / (t + 1) := ⟨_, rfl⟩
  have hs1' : 1 ≤ s := by rw [hs]; exact (Nat.le_div_iff_mul_le (by omega)).2 (by omega)
  have hsT : s < 1000000000 := by rw [hs]; exact Nat.div_lt_self (by decide) (by omega)
  have hst : (t + 1) * s ≤ 1000000000 := by rw [hs]; exact Nat.mul_div_le _ _
  have hla := digs_len_mono (b := 1000000000) (by decide) hge
  have w0 : IntKind.i64.wrap (((n + 2 : Nat) : Int) - 1) = ((n + 1 : Nat) : Int) := wrapN _ (by omega) (by omega)
  have w1 : IntKind.i64.wrap ((t : Int) + 1) = ((t + 1 : Nat) : Int) := wrapN _ (by omega) (by omega)
  have q0 : pbin .quo (.int .i64 1000000000) (.int .i64 ((t + 1 : Nat) : Int)) = some (.int .i64 (s : Int)) := by rw [hs]; exact quo_i64 1000000000 (t + 1) (by decide) (by omega)
  have et : ∀ H, viaddr 1 (natT b) (VI ((n + 1 : Nat) : Int)) H = some (.tptr (tV t) 0) := fun H => viaddr_map (f := tV) (t := .op) (size := 1) (k := .i64) htd rfl
  have h1' : ¬ (((n + 2 : Nat) : Int) = 1) := by omega
  obtain ⟨N, hN⟩ : ∃ N, N = (digs 1000000000 a).length + 1 := ⟨_, rfl⟩
  have wN : IntKind.i64.wrap (((digs 1000000000 a).length : Int) + 1) = (N : Int) := wrapN _ (by omega) (by omega)
  have mkN := mkT_row N (by omega)
  have c3 := spec_l01ShortMul_v a s hs1' hsT ha
  have c4 := spec_l01ShortMul_v b s hs1' hsT hbl
  -- the divisor has as many digits as before
  have hVlt : b * s < 1000000000 ^ (n + 2) := by
    have h2 := (val_top (n := n + 1) (digs_lt (b := 1000000000) (by decide) b) hn htd).2
    rw [val_digs (by decide)] at h2
    have h3 : b * s < (t + 1) * 1000000000 ^ (n + 1) * s := Nat.mul_lt_mul_of_pos_right h2 hs1'
    have h4 : (t + 1) * 1000000000 ^ (n + 1) * s = (t + 1) * s * 1000000000 ^ (n + 1) := by grind
    have h9 : (t + 1) * s * 1000000000 ^ (n + 1) ≤ 1000000000 * 1000000000 ^ (n + 1) := Nat.mul_le_mul_right _ hst
    have h10 : 1000000000 * 1000000000 ^ (n + 1) = 1000000000 ^ (n + 2) := by rw [Nat.pow_succ 1000000000 (n + 1)]; exact Nat.mul_comm _ _
    rw [h4] at h3
    rw [h10] at h9
    exact Nat.lt_of_lt_of_le h3 h9
  have hVl : (digs 1000000000 (b * s)).length = n + 2 := by
    have h2 := digs_len_le (b := 1000000000) (by decide) hVlt
    have h3 : b ≤ b * s := Nat.le_mul_of_pos_right b hs1'
    have h4 := digs_len_mono (b := 1000000000) (by decide) h3
    omega
  have hAl : (digs 1000000000 (a * s)).length ≤ N := by
    have h2 := digs_len_mul (b := 1000000000) (by decide) a s
    have h3 : (digs 1000000000 s).length ≤ 1 := digs_len_le (by decide) (by rw [Nat.pow_one]; exact hsT)
    omega
  have cp := copyT hAl
  obtain ⟨m, hm⟩ : ∃ m, m + (n + 2) = N := ⟨N - (n + 2), by omega⟩
  have wm : IntKind.i64.wrap ((N : Int) - ((n + 2 : Nat) : Int)) = (m : Int) := wrapN _ (by omega) (by omega)
  have wm1 : IntKind.i64.wrap ((m : Int) - 1) = (m : Int) - 1 := wrap64 (by omega) (by omega)
  obtain ⟨us0, hus0⟩ : ∃ us0, us0 = digs 1000000000 (a * s) ++ List.replicate (N - (digs 1000000000 (a * s)).length) 0 := ⟨_, rfl⟩
  rw [← hus0] at cp
  have mkm : vmake [.int .i64 0] 8 (VI (m : Int)) (VI (m : Int)) [.row 0 (us0.map tV) 1 true] = some (.ref 1 0 0 m m, [.row 0 (us0.map tV) 1 true] ++ [.row 0 ((List.replicate m 0).map tV) 1 true]) := vmake_map (f := tV) (x := 0) (H := [.row 0 (us0.map tV) 1 true]) rfl (by omega) (by omega)
  have lN : ∀ K, vrow K 0 0 = some (us0.map tV, 1, true) → vlen (.ref 0 0 0 N N) K = some (VI (N : Int)) := fun K h => vlen_ref h
  have l1 := lN [.row 0 (us0.map tV) 1 true] rfl
  have l2 := lN (H2 us0 (List.replicate m 0)) rfl
  have hul0 : us0.length = N := by rw [hus0, List.length_append, List.length_replicate]; omega
  have hud0 : ∀ d ∈ us0, d < 1000000000 := fun d hd => by
    rw [hus0] at hd
    rcases List.mem_append.1 hd with h | h
    · exact digs_lt (by decide) _ d h
    · rw [List.eq_of_mem_replicate h]; decide
  have huv0 : val 1000000000 us0 = a * s := by rw [hus0, val_append, val_replicate_zero, Nat.mul_zero, Nat.add_zero, val_digs (by decide)]
  generalize hvs : digs 1000000000 (b * s) = vs at *
  have hvd : ∀ d ∈ vs, d < 1000000000 := by rw [← hvs]; exact digs_lt (by decide) _
  have hvv : val 1000000000 vs = b * s := by rw [← hvs]; exact val_digs (by decide) _
  have lV : ∀ H, vlen (natT (b * s)) H = some (VI ((n + 2 : Nat) : Int)) := fun H => by rw [len_natT, hvs, hVl]
  obtain ⟨v1, f1⟩ : ∃ v1, vs[n + 1]? = some v1 := ⟨_, List.getElem?_eq_getElem (by omega)⟩
  obtain ⟨v0, f0⟩ : ∃ v0, vs[n]? = some v0 := ⟨_, List.getElem?_eq_getElem (by omega)⟩
  have hv1 : 1 ≤ v1 := by
    obtain ⟨d, hd, hd0, _⟩ := digsT_top (a := b * s) (n := n + 1) (by rw [hvs]; exact hVl)
    rw [hvs, f1] at hd
    cases hd
    omega
  have hless : val 1000000000 (us0.drop m) < val 1000000000 vs := by
    have h2 := val_split (b := 1000000000) us0 m
    rw [List.length_take, hul0, Nat.min_eq_left (by omega), huv0] at h2
    have h3 : a < b * 1000000000 ^ m := by
      have y1 := digs_len_lt (b := 1000000000) (by decide) a
      have y2 := digs_ge (b := 1000000000) (by decide) hb
      rw [hn] at y2
      have y3 : 1000000000 ^ (n + 2 - 1) * 1000000000 ^ m ≤ b * 1000000000 ^ m := Nat.mul_le_mul_right _ y2
      rw [← Nat.pow_add, show n + 2 - 1 + m = (digs 1000000000 a).length by omega] at y3
      exact Nat.lt_of_lt_of_le y1 y3
    have h4 : a * s < b * 1000000000 ^ m * s := Nat.mul_lt_mul_of_pos_right h3 hs1'
    have h5 : b * 1000000000 ^ m * s = 1000000000 ^ m * (b * s) := by grind
    rw [hvv]
    have h6 : 1000000000 ^ m * val 1000000000 (us0.drop m) < 1000000000 ^ m * (b * s) := by
      rw [← h5]
      exact Nat.lt_of_le_of_lt (by rw [h2]; exact Nat.le_add_left _ _) h4
    exact Nat.lt_of_mul_lt_mul_left h6
  have body : VW ⟨true, false⟩ 0 (.loop spec_l01NatDiv_b1) = VW ⟨true, false⟩ 0 (.loop spec_l01NatDiv_b1) := rfl
  have tail : ∀ (us os : List Nat), us.length = N → (∀ d ∈ us, d < 1000000000) → os.length = m → (∀ d ∈ os, d < 1000000000) → val 1000000000 us + val 1000000000 vs * val 1000000000 os = a * s → val 1000000000 us < val 1000000000 vs →
      (∀ lo K, vcallP 57 [.ref 0 0 0 N N] lo (H2 us os) K = K (natT (a % b * s)) (freezeAll (H2 us os) [0])) ∧
      (∀ lo K, vcallP 57 [.ref 1 0 0 m m] lo (freezeAll (H2 us os) [0]) K = K (natT (a / b)) (freezeAll (freezeAll (H2 us os) [0]) [1])) ∧ TC 53 [natT (a % b * s), VI (s : Int)] (.tup [natT (a % b), VI ((a % b * s % s : Nat) : Int)]) := by
    intro us os hul hud hol hod hv hlt
    rw [hvv] at hv hlt
    have hq : val 1000000000 os = a / b := by
      rw [← Nat.mul_div_mul_right a b hs1', ← hv, Nat.add_mul_div_left _ _ (Nat.lt_of_le_of_lt (Nat.zero_le _) hlt), Nat.div_eq_of_lt hlt, Nat.zero_add]
    have hr : val 1000000000 us = a % b * s := by
      rw [← Nat.mul_mod_mul_right, ← hv, Nat.add_mul_mod_self_left, Nat.mod_eq_of_lt hlt]
    refine ⟨fun lo K => ?_, fun lo K => ?_, ?_⟩
    · have h := spec_l01Trim_v us hud (by omega)
      rw [hr] at h
      exact TC.row1 (f := tV) h H2_0 hul.symm (Nat.le_refl _) tV_len (fun _ => rfl) rfl rfl lo K
    · have h := spec_l01Trim_v os hod (by omega)
      rw [hq] at h
      have hrow : vrow (freezeAll (H2 us os) [0]) 1 0 = some (os.map tV, 1, true) := rfl
      exact TC.row1 (f := tV) h hrow hol.symm (Nat.le_refl _) tV_len (fun _ => rfl) rfl rfl lo K
    · have h := spec_l01ShortDiv_v (a % b * s) s hs1' hsT (by
        have h2 := digs_len_mono (b := 1000000000) (by decide) (Nat.le_trans (Nat.le_of_lt hlt) (show b * s ≤ b * s from Nat.le_refl _))
        rw [hr, hvs] at h2
        omega)
      rwa [Nat.mul_div_cancel _ hs1'] at h
  clear body
  have nV : natT (b * s) = natL' vs := by rw [natT, hvs]
  cases t1 with
  | false =>
    simp only [spec_l01NatDiv, spec_l01NatDiv_c, s1, s2, c1, hab, len_natT, hn, h1', w0, w1, q0, et, wN, mkN, c3, c4, cp, lV, l1, l2, wm, wm1, mkm, List.cons_append, List.nil_append, VX, Nat.reduceEqDiff, Nat.reduceAdd]
    refine div_loopT (us0 := us0) (os0 := List.replicate m 0) (vs := vs) (N := N) (m := m) (n := n) (A := a * s) (s := s) hul0 hm (by omega) hud0 hVl hvd f1 f0 hv1 huv0 hless (by simp) (rep_lt (by decide) _) (by rfl) (by rfl) (by simp only [VX, Nat.reduceEqDiff, Nat.reduceAdd]; exact nV) (by rfl) (by rfl) (by rfl) ?_
    intro ρ1 us os r12 r13 r16 hul hud hol hod hv hlt
    obtain ⟨x1, x2, x3⟩ := tail us os hul hud hol hod hv hlt
    simp only [r12, r13, r16, x1, x2, x3, VX, Nat.reduceEqDiff, Nat.reduceAdd]
    exact fin
  | true =>
    rw [ht rfl] at s2
    simp only [spec_l01NatDiv, spec_l01NatDiv_c, s1, s2, c1, hab, len_natT, hn, h1', w0, w1, q0, et, wN, mkN, c3, c4, cp, lV, l1, l2, wm, wm1, mkm, List.cons_append, List.nil_append, VX, Nat.reduceEqDiff, Nat.reduceAdd]
    refine div_loopT (us0 := us0) (os0 := List.replicate m 0) (vs := vs) (N := N) (m := m) (n := n) (A := a * s) (s := s) hul0 hm (by omega) hud0 hVl hvd f1 f0 hv1 huv0 hless (by simp) (rep_lt (by decide) _) (by rfl) (by rfl) (by simp only [VX, Nat.reduceEqDiff, Nat.reduceAdd]; exact nV) (by rfl) (by rfl) (by rfl) ?_
    intro ρ1 us os r12 r13 r16 hul hud hol hod hv hlt
    obtain ⟨x1, x2, x3⟩ := tail us os hul hud hol hod hv hlt
    simp only [r12, r13, r16, x1, x2, x3, VX, Nat.reduceEqDiff, Nat.reduceAdd]
    exact fin
end Go.PM

/- The program's numbers of at least 0: the greatest common divisor; the numeral in decimal. -/
namespace Go.PM
theorem len_natV (n : Nat) {H : VHeap} : vlen (natV n) H = some (VI (digs 4294967296 n).length) := vlen_map
theorem len_pos {n : Nat} : (0 : Int) < ((digs 4294967296 n).length : Int) ↔ n ≠ 0 := by
  constructor
  · intro h h0
    subst h0
    rw [digs_zero] at h
    simp at h
  · intro h
    have := (digs_nil (b := 4294967296) (by decide) (n := n))
    have h2 : digs 4294967296 n ≠ [] := fun hx => h (this.1 hx)
    have := List.length_pos_iff.2 h2
    omega
theorem small_lt {n : Nat} (h : (digs 4294967296 n).length ≤ 2) : n < 18446744073709551616 := by
  have h1 := digs_len_lt (b := 4294967296) (by decide) n
  have h2 : 4294967296 ^ (digs 4294967296 n).length ≤ 4294967296 ^ 2 := Nat.pow_le_pow_right (by decide) h
  omega
theorem impl_nat_gcd_v (a b : Nat) (ha : (digs 4294967296 a).length ≤ 17592186044416) (hb : (digs 4294967296 b).length ≤ 17592186044416) : TC 48 [natV a, natV b] (natV (Nat.gcd a b)) := by
  refine TC.walk ⟨true, false⟩ _impl_nat__gcd_t rfl (Nat.le_of_ble_eq_true rfl) (by simp [pureL, natV_pure]) (natV_res _) ?_
  simp only [_impl_nat__gcd, _impl_nat__gcd_c, VX, Nat.reduceEqDiff, Nat.reduceAdd]
  refine VW_loop (fun (t : Nat × Nat) ρ H => H = [] ∧ Nat.gcd t.1 t.2 = Nat.gcd a b ∧ (digs 4294967296 t.1).length ≤ 17592186044416 ∧ (digs 4294967296 t.2).length ≤ 17592186044416 ∧ ρ 0 = natV t.1 ∧ ρ 1 = natV t.2) (fun t => t.2) (a, b) ⟨rfl, rfl, ha, hb, rfl, rfl⟩ ?_
  rintro ⟨x, y⟩ ρ H ⟨rfl, hg, hx, hy, g0, g1⟩
  simp only at hg hx hy g0 g1
  have c1 := impl_nat_small_v x hx
  have c2 := impl_nat_small_v y hy
  by_cases hy0 : y = 0
  · subst hy0
    have hl : ¬ (0 : Int) < ((digs 4294967296 0).length : Int) := by rw [len_pos]; omega
    rw [Nat.gcd_zero_right] at hg
    simp only [_impl_nat__gcd_b1, g0, g1, len_natV, hl, VX, Nat.reduceEqDiff, Nat.reduceAdd]
    rw [hg]
    exact fz_res (natV_pure _)
  have hl : (0 : Int) < ((digs 4294967296 y).length : Int) := len_pos.2 hy0
  by_cases h1 : (digs 4294967296 x).length ≤ 2 ∧ (digs 4294967296 y).length ≤ 2
  · rw [if_pos h1.1] at c1
    rw [if_pos h1.2] at c2
    simp only [_impl_nat__gcd_b1, g0, g1, len_natV, hl, c1, c2, VX, Nat.reduceEqDiff, Nat.reduceAdd]
    refine VW_loop (fun (t : Nat × Nat) ρ H => H = [] ∧ Nat.gcd t.1 t.2 = Nat.gcd a b ∧ t.1 < 18446744073709551616 ∧ t.2 < 18446744073709551616 ∧ ρ 5 = VK .u64 t.1 ∧ ρ 7 = VK .u64 t.2) (fun t => t.2) (x, y) ⟨rfl, hg, small_lt h1.1, small_lt h1.2, rfl, rfl⟩ ?_
    rintro ⟨u, v⟩ ρ2 H ⟨rfl, hg2, hu, hv, k5, k7⟩
    simp only at hg2 hu hv k5 k7
    by_cases hv0 : v = 0
    · subst hv0
      rw [Nat.gcd_zero_right] at hg2
      have hz : ¬ (0 : Int) < ((0 : Nat) : Int) := by omega
      have c3 := impl_natOf_v u hu
      simp only [_impl_nat__gcd_b0, k5, k7, hz, c3, VX, Nat.reduceEqDiff, Nat.reduceAdd]
      rw [hg2]
      exact fz_res (natV_pure _)
    · have hz : (0 : Int) < (v : Int) := by omega
      have r1 := rem_u64 u v (by omega)
      simp only [_impl_nat__gcd_b0, k5, k7, hz, r1, VX, Nat.reduceEqDiff, Nat.reduceAdd]
      refine ⟨(v, u % v), ?_, ?_, hv, ?_, rfl, rfl⟩
      · exact Nat.mod_lt _ (by omega)
      · simp only
        rw [← hg2, Nat.gcd_comm u v, Nat.gcd_rec v u, Nat.gcd_comm]
      · simp only
        have := Nat.mod_lt u (show 0 < v by omega)
        omega
  · have c3 := impl_nat_div_v x y hy0 hx hy
    have next : ∃ s' : Nat × Nat, s'.2 < y ∧ Nat.gcd s'.1 s'.2 = Nat.gcd a b ∧ (digs 4294967296 s'.1).length ≤ 17592186044416 ∧ (digs 4294967296 s'.2).length ≤ 17592186044416 ∧ natV y = natV s'.1 ∧ natV (x % y) = natV s'.2 := by
      have hm := Nat.mod_lt x (show 0 < y by omega)
      refine ⟨(y, x % y), hm, ?_, hy, ?_, rfl, rfl⟩
      · simp only
        rw [← hg, Nat.gcd_comm x y, Nat.gcd_rec y x, Nat.gcd_comm]
      · simp only
        have := digs_len_mono (b := 4294967296) (by decide) (Nat.le_of_lt hm)
        omega
    by_cases h2 : (digs 4294967296 x).length ≤ 2
    · have h3 : ¬ (digs 4294967296 y).length ≤ 2 := fun h => h1 ⟨h2, h⟩
      rw [if_pos h2] at c1
      rw [if_neg h3] at c2
      simp only [_impl_nat__gcd_b1, g0, g1, len_natV, hl, c1, c2, c3, VX, Nat.reduceEqDiff, Nat.reduceAdd]
      exact next
    · rw [if_neg h2] at c1
      by_cases h3 : (digs 4294967296 y).length ≤ 2
      · rw [if_pos h3] at c2
        simp only [_impl_nat__gcd_b1, g0, g1, len_natV, hl, c1, c2, c3, VX, Nat.reduceEqDiff, Nat.reduceAdd]
        exact next
      · rw [if_neg h3] at c2
        simp only [_impl_nat__gcd_b1, g0, g1, len_natV, hl, c1, c2, c3, VX, Nat.reduceEqDiff, Nat.reduceAdd]
        exact next
end Go.PM

/- The program's numbers of at least 0: the numeral in decimal. -/
namespace Go.PM
open Go.Lib
theorem str_add (a b : List UInt8) (h : a.length + b.length ≤ 9223372036854775807) : pbin .add (.string ⟨a.toArray⟩) (.string ⟨b.toArray⟩) = some (.string ⟨(a ++ b).toArray⟩) := by
  have h1 : (⟨a.toArray⟩ : ByteArray).size = a.length := by simp [ByteArray.size]
  have h2 : (⟨b.toArray⟩ : ByteArray).size = b.length := by simp [ByteArray.size]
  have h3 : ¬ (((⟨a.toArray⟩ : ByteArray).size + (⟨b.toArray⟩ : ByteArray).size : Nat) : Int) > IntKind.i64.max := by
    rw [h1, h2]
    show ¬ _ > (9223372036854775807 : Int)
    omega
  simp only [pbin, h3, if_false]
  congr 2
theorem slen_str (a : List UInt8) : slenV (.string ⟨a.toArray⟩) = some (.int .i64 (a.length : Int)) := by simp [slenV, ByteArray.size]
theorem str_len : ∀ a : List UInt8, (vcells (strV a)).length = 1 := fun _ => rfl
theorem reverse_v {xs : List (List UInt8)} {H : VHeap} {lo b g n : Nat} (hr : vrow H b g = some (xs.map strV, 1, true)) (hn : xs.length = n) (hlo : lo ≤ b) (hcap : n ≤ 9223372036854775806) :
    VRaw 71 [.ref b g 0 n n] lo H fun r H' => r = .tup [] ∧ H' = H.set b (.row g (xs.reverse.map strV) 1 true) := by
  refine VRaw.walk ⟨true, false⟩ slices_Reverse___string_string__t (Nat.le_of_ble_eq_true rfl) ?_
  have e0 : vlen (.ref b g 0 n n) H = some (VI n) := vlen_ref hr
  have w0 : IntKind.i64.wrap ((n : Int) - 1) = (n : Int) - 1 := wrap64 (by omega) (by omega)
  simp only [slices_Reverse___string_string_, slices_Reverse___string_string__c, e0, w0, VX, Nat.reduceEqDiff, Nat.reduceAdd]
  refine VW_loop (fun (t : Nat × List (List UInt8)) ρ K => t.1 ≤ n ∧ K = H.set b (.row g (t.2.map strV) 1 true) ∧ t.2.length = n ∧ (∀ k, k < n → t.2[k]? = if k < t.1 ∨ n ≤ k + t.1 then xs[n - 1 - k]? else xs[k]?) ∧ ρ 0 = .ref b g 0 n n ∧ ρ 2 = VI t.1 ∧ ρ 3 = VI ((n : Int) - 1 - (t.1 : Int))) (fun t => n - t.1) (0, xs) ⟨Nat.zero_le _, (set_same_row hr).symm, hn, fun k hk => by rw [if_neg (by simp only; omega)], rfl, rfl, by show VI ((n : Int) - 1) = VI ((n : Int) - 1 - ((0 : Nat) : Int)); rw [Int.natCast_zero, Int.sub_zero]⟩ ?_
  rintro ⟨i, ys⟩ ρ K ⟨hi, rfl, hl, hy, g0, g2, g3⟩
  simp only at hi hl hy g2 g3
  have hr2 : vrow (H.set b (.row g (ys.map strV) 1 true)) b g = some (ys.map strV, 1, true) := vrow_set_self hr
  by_cases hin : (i : Int) < (n : Int) - 1 - (i : Int)
  · have hj : (n : Int) - 1 - (i : Int) = ((n - 1 - i : Nat) : Int) := by omega
    obtain ⟨x, hx⟩ : ∃ x, ys[i]? = some x := ⟨_, List.getElem?_eq_getElem (by omega)⟩
    obtain ⟨y, hyy⟩ : ∃ y, ys[n - 1 - i]? = some y := ⟨_, List.getElem?_eq_getElem (by omega)⟩
    rw [hj] at g3 hin
    have a1 : ∀ (zs : List (List UInt8)) (k : Nat), zs.length = n → k < n → viaddr 1 (.ref b g 0 n n) (VI (k : Int)) (H.set b (.row g (zs.map strV) 1 true)) = some (.ptr b g k 0) := fun zs k h1 h2 => by rw [viaddr_row (vrow_set_self hr) h2, Nat.zero_add]
    have l1 : vload false 1 (.ptr b g (n - 1 - i) 0) (H.set b (.row g (ys.map strV) 1 true)) = some (strV y) := vload_row hr2 hyy
    have l2 : vload false 1 (.ptr b g i 0) (H.set b (.row g (ys.map strV) 1 true)) = some (strV x) := vload_row hr2 hx
    have s1 : vstore lo 1 (.ptr b g i 0) (strV y) (H.set b (.row g (ys.map strV) 1 true)) = some (H.set b (.row g ((ys.set i y).map strV) 1 true)) := by rw [vstore_map (f := strV) (e := 1) hr2 (by omega) hlo rfl rfl, set_set_row]
    have s2 : vstore lo 1 (.ptr b g (n - 1 - i) 0) (strV x) (H.set b (.row g ((ys.set i y).map strV) 1 true)) = some (H.set b (.row g (((ys.set i y).set (n - 1 - i) x).map strV) 1 true)) := by rw [vstore_map (f := strV) (e := 1) (vrow_set_self hr) (by rw [List.length_set]; omega) hlo rfl rfl, set_set_row]
    have w1 : IntKind.i64.wrap ((i : Int) + 1) = ((i + 1 : Nat) : Int) := wrapN _ (by omega) (by omega)
    have w2 : IntKind.i64.wrap (((n - 1 - i : Nat) : Int) - 1) = (n : Int) - 1 - ((i + 1 : Nat) : Int) := by rw [wrap64 (by omega) (by omega)]; omega
    have b1 := a1 ys i hl (by omega)
    have b2 := a1 ys (n - 1 - i) hl (by omega)
    have b3 := a1 (ys.set i y) (n - 1 - i) (by rw [List.length_set]; exact hl) (by omega)
    simp only [slices_Reverse___string_string__b0, g0, g2, g3, hin, b1, b2, b3, l1, l2, s1, s2, w1, w2, VX, Nat.reduceEqDiff, Nat.reduceAdd]
    refine ⟨(i + 1, (ys.set i y).set (n - 1 - i) x), by simp only; omega, by simp only; omega, rfl, by simp only [List.length_set]; exact hl, fun k hk => ?_, by (repeat' apply And.intro) <;> first | rfl | trivial⟩
    simp only
    have hxx := hy i (by omega)
    rw [if_neg (by omega), hx] at hxx
    have hyx := hy (n - 1 - i) (by omega)
    rw [if_neg (by omega), hyy] at hyx
    rw [List.getElem?_set, List.getElem?_set, List.length_set]
    by_cases h1 : n - 1 - i = k
    · subst h1
      rw [if_pos rfl, if_pos (by omega), if_pos (by omega), show n - 1 - (n - 1 - i) = i by omega]
      exact hxx
    · rw [if_neg h1]
      by_cases h2 : i = k
      · subst h2
        rw [if_pos rfl, if_pos (by omega), if_pos (by omega)]
        exact hyx
      · rw [if_neg h2, hy k hk]
        by_cases h3 : k < i ∨ n ≤ k + i
        · rw [if_pos h3, if_pos (by omega)]
        · rw [if_neg h3, if_neg (by omega)]
  · have hrev : ys = xs.reverse := by
      apply List.ext_getElem?
      intro k
      rcases Nat.lt_or_ge k n with h | h
      · rw [hy k h, List.getElem?_reverse (by omega), hn]
        split
        · rfl
        · rw [show n - 1 - k = k by omega]
      · rw [List.getElem?_eq_none (by omega), List.getElem?_eq_none (by rw [List.length_reverse]; omega)]
    subst hrev
    simp only [slices_Reverse___string_string__b0, g0, g2, g3, hin, VX, Nat.reduceEqDiff, Nat.reduceAdd]
    try exact ⟨rfl, rfl⟩
theorem digsT_len (n : Nat) : (digs 1000000000 n).length ≤ 2 * (digs 4294967296 n).length := by
  refine digs_len_le (by decide) ?_
  have h1 := digs_len_lt (b := 4294967296) (by decide) n
  have h2 : 4294967296 ^ (digs 4294967296 n).length ≤ (1000000000 ^ 2) ^ (digs 4294967296 n).length := Nat.pow_le_pow_left (by decide) _
  rw [← Nat.pow_mul] at h2
  omega
theorem dec_len {n : Nat} (hn : n ≠ 0) : (decDigits n).length ≤ 9 * (digs 1000000000 n).length := by
  have h1 := digs_len_lt (b := 1000000000) (by decide) n
  have h3 : (digs 1000000000 n) ≠ [] := fun h => hn ((digs_nil (by decide)).1 h)
  have h4 := List.length_pos_iff.2 h3
  generalize (digs 1000000000 n).length = L at *
  obtain ⟨k, hk⟩ : ∃ k, 9 * L = k + 1 := ⟨9 * L - 1, by omega⟩
  have h5 : (1000000000 : Nat) ^ L = 10 ^ (9 * L) := by rw [show (1000000000 : Nat) = 10 ^ 9 by decide, ← Nat.pow_mul]
  rw [h5, hk] at h1
  rw [hk]
  exact dec_len_le n k h1
def head10 (q : Nat) : List UInt8 := if q = 0 then [] else decDigits q
theorem impl_nat_text_v (n : Nat) (hn : (digs 4294967296 n).length ≤ 68719476736) : TC 60 [natV n] (strV (decDigits n)) := by
  refine TC.walk ⟨true, false⟩ _impl_nat__text_t rfl (Nat.le_of_ble_eq_true rfl) (by simp [pureL, natV_pure]) rfl ?_
  by_cases h0 : n = 0
  · subst h0
    have hl : (((digs 4294967296 0).length : Nat) : Int) = 0 := by rw [digs_zero]; rfl
    simp only [_impl_nat__text, _impl_nat__text_c, len_natV, hl, VX, Nat.reduceEqDiff, Nat.reduceAdd]
    rw [dec_small (by decide)]
    exact fz_res rfl
  have hl : ¬ (((digs 4294967296 n).length : Nat) : Int) = 0 := by have := len_pos.2 h0; omega
  have e1 : ∀ lr, vlit lr [.string ⟨#[]⟩] 0 [] [] = some (.ref 0 0 0 0 0, [.row 0 (([] : List (List UInt8)).map strV) 1 true]) := fun lr => vlit_nil (H := []) (lr := lr) (z := [.string ⟨#[]⟩]) rfl
  have hTn := digsT_len n
  have hdl := dec_len h0
  simp only [_impl_nat__text, _impl_nat__text_c, len_natV, hl, e1, VX, Nat.reduceEqDiff, Nat.reduceAdd]
  refine VW_loop (fun (t : Nat × List (List UInt8)) ρ H => H = [.row t.2.length (t.2.map strV) 1 true] ∧ t.1 ≤ n ∧ t.2.length + (digs 1000000000 t.1).length = (digs 1000000000 n).length ∧ decDigits n = head10 t.1 ++ t.2.reverse.flatten ∧ ρ 0 = natV t.1 ∧ ρ 3 = .ref 0 t.2.length 0 t.2.length t.2.length) (fun t => t.1) (n, []) ⟨rfl, Nat.le_refl _, by simp, by simp [head10, h0], rfl, rfl⟩ ?_
  rintro ⟨q, ps⟩ ρ H ⟨rfl, hq, hlen, htxt, g0, g3⟩
  simp only at hq hlen htxt g0 g3
  by_cases hq0 : q = 0
  · subst hq0
    have hz : ¬ (0 : Int) < ((digs 4294967296 0).length : Int) := by rw [len_pos]; omega
    rw [head10, if_pos rfl, List.nil_append] at htxt
    have hr : vrow [.row ps.length (ps.map strV) 1 true] 0 ps.length = some (ps.map strV, 1, true) := vrow_zero
    simp only [_impl_nat__text_b0, g0, g3, len_natV, hz, VX, Nat.reduceEqDiff, Nat.reduceAdd]
    refine vcall_raw rfl ((reverse_v hr rfl (Nat.le_refl _) (by omega)).mono ?_)
    rintro r H' ⟨rfl, rfl⟩
    have hset : ([.row ps.length (ps.map strV) 1 true] : VHeap).set 0 (.row ps.length (ps.reverse.map strV) 1 true) = [.row ps.length (ps.reverse.map strV) 1 true] := rfl
    have hr2 : vrow [.row ps.length (ps.reverse.map strV) 1 true] 0 ps.length = some (ps.reverse.map strV, 1, true) := vrow_zero
    have hfl : ps.reverse.flatten.length ≤ 140737488355328 := by rw [← htxt]; omega
    have cj := (join_v ps.reverse (by rw [List.length_reverse]; omega) hfl).flat (H := [.row ps.length (ps.reverse.map strV) 1 true]) (args := [.ref 0 ps.length 0 ps.length ps.length, strV []]) rfl (by simp only [pureL, pure_list (f := strV) str_len (fun _ => rfl), Bool.and_true]; rfl) (fz2 (fz_row hr2 (by simp) (Nat.le_refl _) (pure_map fun _ => rfl)) (fz_res rfl)) rfl
    simp only [hset, g3, cj, VX, Nat.reduceEqDiff, Nat.reduceAdd]
    rw [← htxt]
    exact fz_res rfl
  · have hz : (0 : Int) < ((digs 4294967296 q).length : Int) := len_pos.2 hq0
    have hql := digs_len_mono (b := 4294967296) (by decide) hq
    have c1 : TC 63 [natV q, .sc (.int .u32 1000000000)] (.tup [natV (q / 1000000000), uV (q % 1000000000)]) := impl_nat_divSmall_v q 1000000000 (by decide) (by decide) (by omega)
    have hm := Nat.mod_lt q (show 0 < 1000000000 by decide)
    have c2 := fmtu_v (q % 1000000000) (by omega)
    have wm : IntKind.u64.wrap ((q % 1000000000 : Nat) : Int) = ((q % 1000000000 : Nat) : Int) := wrapU _ (by omega)
    have hdq := digs_pos (b := 1000000000) (by decide) hq0
    have hdl2 : (digs 1000000000 q).length = (digs 1000000000 (q / 1000000000)).length + 1 := by rw [hdq]; rfl
    have hdr := dec_len_le (q % 1000000000) 8 hm
    have hqq := Nat.mod_add_div q 1000000000
    have e2 : ∀ x : List UInt8, vlit false [.string ⟨#[]⟩] 1 [(0, strV x)] [.row ps.length (ps.map strV) 1 true] = some (.tree [strV x] (.cl 1), [.row ps.length (ps.map strV) 1 true]) := fun x => vlit_one (z := [.string ⟨#[]⟩]) rfl rfl rfl
    have e3 : ∀ x : List UInt8, vsource 1 (.tree [strV x] (.cl 1)) [.row ps.length (ps.map strV) 1 true] = some [strV x] := fun x => vsource_one rfl rfl
    have e4 : ∀ x : List UInt8, vappend 0 1 16 (.ref 0 ps.length 0 ps.length ps.length) [strV x] [.row ps.length (ps.map strV) 1 true] = some (.ref 0 (ps.length + 1) 0 (ps.length + 1) (ps.length + 1), [.row (ps.length + 1) ((ps ++ [x]).map strV) 1 true]) := fun x => by
      rw [vappend_row (f := strV) (x := x) vrow_zero rfl (Nat.le_refl _) (by decide) (by decide) (by omega)]
      rfl
    have hle : q / 1000000000 < q := Nat.div_lt_self (by omega) (by decide)
    by_cases hqz : q / 1000000000 = 0
    · have hz2 : ¬ (0 : Int) < ((digs 4294967296 (q / 1000000000)).length : Int) := by rw [len_pos]; omega
      simp only [_impl_nat__text_b0, g0, g3, len_natV, hz, c1, c2, wm, hz2, e2, e3, e4, VX, Nat.reduceEqDiff, Nat.reduceAdd]
      refine ⟨(q / 1000000000, ps ++ [decDigits (q % 1000000000)]), hle, by simp, by simp only; omega, by simp only [List.length_append, List.length_singleton]; omega, ?_, rfl, by simp⟩
      rw [htxt, head10, if_neg hq0, head10, if_pos hqz, List.reverse_append, List.nil_append, List.reverse_singleton, List.singleton_append, List.flatten_cons, show q % 1000000000 = q by omega]
    · have hz2 : (0 : Int) < ((digs 4294967296 (q / 1000000000)).length : Int) := len_pos.2 hqz
      have ws : IntKind.i64.wrap ((9 : Int) - ((decDigits (q % 1000000000)).length : Int)) = ((9 - (decDigits (q % 1000000000)).length : Nat) : Int) := wrapN _ (by omega) (by omega)
      have c3 := repeat_v [48] (9 - (decDigits (q % 1000000000)).length) (by simp; omega) (by omega)
      have hrep : repeatL [48] (9 - (decDigits (q % 1000000000)).length) ++ decDigits (q % 1000000000) = padD 9 (q % 1000000000) := by
        rw [pad_eq 8 _ hm]
        congr 1
        have := repeatL_replicate 48 1 (9 - (decDigits (q % 1000000000)).length)
        rw [Nat.mul_one] at this
        exact this
      have c4 := str_add (repeatL [48] (9 - (decDigits (q % 1000000000)).length)) (decDigits (q % 1000000000)) (by rw [← List.length_append, hrep, pad_len]; decide)
      rw [hrep] at c4
      simp only [_impl_nat__text_b0, g0, g3, len_natV, hz, c1, c2, wm, hz2, slen_str, ws, c3, c4, e2, e3, e4, VX, Nat.reduceEqDiff, Nat.reduceAdd]
      refine ⟨(q / 1000000000, ps ++ [padD 9 (q % 1000000000)]), hle, by simp, by simp only; omega, by simp only [List.length_append, List.length_singleton]; omega, ?_, rfl, by simp⟩
      rw [htxt, head10, if_neg hq0, head10, if_neg hqz, List.reverse_append, List.reverse_singleton, List.singleton_append, List.flatten_cons, ← List.append_assoc, ← dec_chunk (by omega) hm]
      congr 2
      omega
end Go.PM

/- The program's fractions: what they look like; lowest terms; whole numbers; signs. -/
namespace Go.PM
open Go.Lib
def ratV (q : Rat) : VV := .agg [VB (decide (q.num < 0)), natV q.num.natAbs, natV q.den]
theorem ratV_pure (q : Rat) : pureV (ratV q) = true := by simp [ratV, pureV, pureL, natV_pure, isSc]
theorem ratV_res (q : Rat) : resV (ratV q) = true := by simp [ratV, resV, resL, natV_res, isSc]
theorem ratV_of {q : Rat} {neg : Bool} {t b : Nat} (h0 : q.num < 0 ↔ neg = true) (h1 : q.num.natAbs = t) (h2 : q.den = b) : ratV q = .agg [VB neg, natV t, natV b] := by
  subst h1 h2
  unfold ratV
  congr 4
  cases neg <;> simp_all
theorem ratV_mk {neg : Bool} {t b : Nat} (hb : b ≠ 0) (ht : t ≠ 0) : ratV (mkRat (sgn neg t) b) = .agg [VB neg, natV (t / Nat.gcd t b), natV (b / Nat.gcd t b)] := by
  refine ratV_of ?_ ?_ (mk_den hb)
  · rw [mk_num hb, sgn_neg]
    have h1 : t / Nat.gcd t b ≠ 0 := by
      have := Nat.div_pos (Nat.le_of_dvd (by omega) (Nat.gcd_dvd_left t b)) (Nat.gcd_pos_of_pos_left b (by omega))
      omega
    simp [h1]
  · rw [mk_num hb, sgn_abs]
theorem ratV_zero : ratV 0 = .agg [VB false, .tree [] .op, natV 1] := by
  rw [ratV_of (q := 0) (neg := false) (t := 0) (b := 1) (by simp) rfl rfl, natV_zero]
theorem vscal_nat (n : Nat) : vscal (natV n) = true := rfl
theorem isAny_nat (n : Nat) : isAny (natV n) = false := rfl
theorem vcells_nat (n : Nat) : vcells (natV n) = [natV n] := rfl
theorem isAny_rat (q : Rat) : isAny (ratV q) = false := rfl
theorem vcells_rat (q : Rat) : vcells (ratV q) = [VB (decide (q.num < 0)), natV q.num.natAbs, natV q.den] := rfl
theorem rd_rat (q : Rat) : rdCells true 3 (ratV q) 0 = some (ratV q) := rfl
theorem rd_rat0 (q : Rat) : rdCells false 1 (ratV q) 0 = some (VB (decide (q.num < 0))) := rfl
theorem rd_rat1 (q : Rat) : rdCells false 1 (ratV q) 1 = some (natV q.num.natAbs) := rfl
theorem rd_rat2 (q : Rat) : rdCells false 1 (ratV q) 2 = some (natV q.den) := rfl
theorem fz_agg3 {d : Nat} {H : VHeap} {u u' v v' w w' : VV} (h1 : fz (d + 1) H u = some u') (h2 : fz (d + 1) H v = some v') (h3 : fz (d + 1) H w = some w') : fz (d + 2) H (.agg [u, v, w]) = some (.agg [u', v', w']) := by
  have e : fz (d + 2) H (.agg [u, v, w]) = if pureV (.agg [u, v, w]) = true then some (.agg [u, v, w]) else ([u, v, w].mapM (fz (d + 1) H)).map .agg := rfl
  rw [e]
  by_cases hp : pureV (.agg [u, v, w]) = true
  · rw [if_pos hp]
    simp only [pureV, pureL, Bool.and_eq_true, and_true] at hp
    rw [fz_pure hp.1] at h1
    rw [fz_pure hp.2.1] at h2
    rw [fz_pure hp.2.2] at h3
    cases h1
    cases h2
    cases h3
    rfl
  · rw [if_neg hp, List.mapM_cons, h1, List.mapM_cons, h2, List.mapM_cons, h3]
    rfl
theorem fz_sc {d : Nat} {H : VHeap} {v : Value} (h : isSc v = true) : fz (d + 1) H (.sc v) = some (.sc v) := fz_pure h
theorem fz_parts {H : VHeap} {neg : Bool} {t b : Nat} : fz depth H (.agg [VB neg, natV t, natV b]) = some (.agg [VB neg, natV t, natV b]) := fz_res (by simp [pureV, pureL, natV_pure, isSc])
theorem capW {n : Nat} (h : bl n ≤ 2199023255552) : (digs 4294967296 n).length ≤ 68719476736 := by
  have := len_W n
  omega
theorem capW' {n : Nat} (h : bl n ≤ 4398046511104) : (digs 4294967296 n).length ≤ 17592186044416 := by
  have := len_W n
  omega
theorem impl_lowest_v (neg : Bool) (t b : Nat) (hb : b ≠ 0) (ht : bl t ≤ 4398046511104) (hbl : bl b ≤ 4398046511104) : TC 34 [VB neg, natV t, natV b] (ratV (mkRat (sgn neg t) b)) := by
  refine TC.walk ⟨true, false⟩ impl_lowest_t rfl (Nat.le_of_ble_eq_true rfl) (by simp [pureL, natV_pure, pureV, isSc]) (ratV_res _) ?_
  by_cases h0 : t = 0
  · subst h0
    have hl : (((digs 4294967296 0).length : Nat) : Int) = 0 := by rw [digs_zero]; rfl
    have c1 : TC 35 [.sc (.int .u64 1)] (natV 1) := impl_natOf_v 1 (by decide)
    rw [sgn_zero, Rat.zero_mkRat, ratV_zero, ← natV_zero]
    simp only [impl_lowest, impl_lowest_c, len_natV, hl, c1, vscal_nat, isAny_nat, vcells_nat, vload_pdef, vstore_pdef, viaddr_rdef, vlen_rdef, vfaddr_pdef, vchk_pdef, visnil_rdef, visnil_nil, visnil_cons, vrow_zero, vrow_succ, List.set_cons_zero, List.set_cons_succ, elemOf_one, elemOf_two, vresult, vresAll, vres1, vfill, isAny_sc, isAny_tree, isAny_ref, isAny_agg, isAny_clo, List.take_zero, List.take_succ_cons, List.take_nil, List.drop_zero, List.drop_succ_cons, List.drop_nil, List.append_nil, Nat.reduceLeDiff, Nat.le_refl, vsplice, Nat.reduceLT, Int.toNat_natCast, eq_self, ge_iff_le, Bool.and_eq_true, Nat.reduceSub, VX, Nat.reduceEqDiff, Nat.reduceAdd]
    exact fz_agg3 (fz_sc rfl) fz_nilD (fz_pure (natV_pure _))
  · have hl : ¬ (((digs 4294967296 t).length : Nat) : Int) = 0 := by have := len_pos.2 h0; omega
    have c1 := impl_nat_gcd_v t b (capW' ht) (capW' hbl)
    have hg0 : Nat.gcd t b ≠ 0 := Nat.gcd_ne_zero_right hb
    have hgl : bl (Nat.gcd t b) ≤ 4398046511104 := Nat.le_trans (bl_mono (Nat.gcd_le_right t (by omega))) hbl
    have c2 := impl_nat_div_v t _ hg0 (capW' ht) (capW' hgl)
    have c3 := impl_nat_div_v b _ hg0 (capW' hbl) (capW' hgl)
    rw [ratV_mk hb h0]
    by_cases h1 : ((digs 4294967296 (Nat.gcd t b)).length : Int) = 1
    · obtain ⟨d, hd⟩ : ∃ d, digs 4294967296 (Nat.gcd t b) = [d] := List.length_eq_one_iff.1 (by omega)
      obtain ⟨hgd, _, _⟩ := digs_one hd
      have e1 : viaddr 1 (natV (Nat.gcd t b)) (.sc (.int .i64 0)) [.row 0 [.agg [VB false, .tree [] .nil, .tree [] .nil]] 3 true] = some (.tptr (uV d) 0) := viaddr_map (f := uV) (xs := digs 4294967296 (Nat.gcd t b)) (i := 0) (k := .i64) (by rw [hd]; rfl) rfl
      by_cases h2 : (d : Int) = 1
      · have hg1 : Nat.gcd t b = 1 := by omega
        simp only [impl_lowest, impl_lowest_c, len_natV, hl, c1, h1, h2, e1, vscal_nat, isAny_nat, vcells_nat, vload_pdef, vstore_pdef, viaddr_rdef, vlen_rdef, vfaddr_pdef, vchk_pdef, visnil_rdef, visnil_nil, visnil_cons, vrow_zero, vrow_succ, List.set_cons_zero, List.set_cons_succ, elemOf_one, elemOf_two, vresult, vresAll, vres1, vfill, isAny_sc, isAny_tree, isAny_ref, isAny_agg, isAny_clo, List.take_zero, List.take_succ_cons, List.take_nil, List.drop_zero, List.drop_succ_cons, List.drop_nil, List.append_nil, Nat.reduceLeDiff, Nat.le_refl, vsplice, Nat.reduceLT, Int.toNat_natCast, eq_self, ge_iff_le, Bool.and_eq_true, Nat.reduceSub, VX, Nat.reduceEqDiff, Nat.reduceAdd]
        rw [hg1, Nat.div_one, Nat.div_one]
        exact fz_parts
      · simp only [impl_lowest, impl_lowest_c, len_natV, hl, c1, c2, c3, h1, h2, e1, vscal_nat, isAny_nat, vcells_nat, vload_pdef, vstore_pdef, viaddr_rdef, vlen_rdef, vfaddr_pdef, vchk_pdef, visnil_rdef, visnil_nil, visnil_cons, vrow_zero, vrow_succ, List.set_cons_zero, List.set_cons_succ, elemOf_one, elemOf_two, vresult, vresAll, vres1, vfill, isAny_sc, isAny_tree, isAny_ref, isAny_agg, isAny_clo, List.take_zero, List.take_succ_cons, List.take_nil, List.drop_zero, List.drop_succ_cons, List.drop_nil, List.append_nil, Nat.reduceLeDiff, Nat.le_refl, vsplice, Nat.reduceLT, Int.toNat_natCast, eq_self, ge_iff_le, Bool.and_eq_true, Nat.reduceSub, VX, Nat.reduceEqDiff, Nat.reduceAdd]
        exact fz_parts
    · simp only [impl_lowest, impl_lowest_c, len_natV, hl, c1, c2, c3, h1, vscal_nat, isAny_nat, vcells_nat, vload_pdef, vstore_pdef, viaddr_rdef, vlen_rdef, vfaddr_pdef, vchk_pdef, visnil_rdef, visnil_nil, visnil_cons, vrow_zero, vrow_succ, List.set_cons_zero, List.set_cons_succ, elemOf_one, elemOf_two, vresult, vresAll, vres1, vfill, isAny_sc, isAny_tree, isAny_ref, isAny_agg, isAny_clo, List.take_zero, List.take_succ_cons, List.take_nil, List.drop_zero, List.drop_succ_cons, List.drop_nil, List.append_nil, Nat.reduceLeDiff, Nat.le_refl, vsplice, Nat.reduceLT, Int.toNat_natCast, eq_self, ge_iff_le, Bool.and_eq_true, Nat.reduceSub, VX, Nat.reduceEqDiff, Nat.reduceAdd]
      exact fz_parts
theorem magn_wrap {n : Int} (h0 : -9223372036854775808 ≤ n) (h : n < 0) : IntKind.u64.wrap (0 - IntKind.u64.wrap n) = (n.natAbs : Int) := by
  rw [wrap_u64, wrap_u64]
  omega
theorem impl_magnitude_v (n : Int) (h0 : -9223372036854775808 ≤ n) (h1 : n ≤ 9223372036854775807) : TC 36 [VI n] (VK .u64 (n.natAbs : Int)) := by
  refine TC.walk ⟨true, false⟩ impl_magnitude_t rfl (Nat.le_of_ble_eq_true rfl) rfl rfl ?_
  by_cases h : n < 0
  · simp only [impl_magnitude, impl_magnitude_c, h, magn_wrap h0 h, VX, Nat.reduceEqDiff, Nat.reduceAdd]
    exact fz_res rfl
  · have w : IntKind.u64.wrap n = (n.natAbs : Int) := by rw [wrap_u64]; omega
    simp only [impl_magnitude, impl_magnitude_c, h, w, VX, Nat.reduceEqDiff, Nat.reduceAdd]
    exact fz_res rfl
end Go.PM

/- The program's fractions: sums, differences, products, quotients, comparisons. -/
namespace Go.PM
open Go.Lib
theorem eqb_bT (a b : Bool) : eqbV true (.bool a) (.bool b) = some (.bool (a != b)) := by
  show some (Value.bool ((a == b) != true)) = _
  cases a <;> cases b <;> rfl
theorem num_bl {q : Rat} {k : Nat} (h : rbits q ≤ k) : bl q.num.natAbs ≤ k := Nat.le_trans rbits_num h
theorem den_bl {q : Rat} {k : Nat} (h : rbits q ≤ k) : bl q.den ≤ k := Nat.le_trans rbits_den h
end Go.PM

/- The reference's fractions: lowest terms, sums, products, quotients, comparisons. -/
namespace Go.PM
theorem lenT_pos {n : Nat} : (0 : Int) < ((digs 1000000000 n).length : Int) ↔ n ≠ 0 := by
  constructor
  · intro h h0
    subst h0
    rw [digs_zero] at h
    simp at h
  · intro h
    have := (digs_nil (b := 1000000000) (by decide) (n := n))
    have h2 : digs 1000000000 n ≠ [] := fun hx => h (this.1 hx)
    have := List.length_pos_iff.2 h2
    omega
theorem capT {n : Nat} (h : bl n ≤ 4398046511104) : (digs 1000000000 n).length < 17592186044416 := by
  have := len_T n
  omega
theorem spec_l01Gcd_v (a b : Nat) (ha : (digs 1000000000 a).length < 17592186044416) (hb : (digs 1000000000 b).length < 17592186044416) : TC 39 [natT a, natT b] (natT (Nat.gcd a b)) := by
  refine TC.walk ⟨true, false⟩ spec_l01Gcd_t rfl (Nat.le_of_ble_eq_true rfl) (by simp [pureL, natT_pure]) (natT_res _) ?_
  simp only [spec_l01Gcd, spec_l01Gcd_c, VX, Nat.reduceEqDiff, Nat.reduceAdd]
  refine VW_loop (fun (t : Nat × Nat) ρ H => H = [] ∧ Nat.gcd t.1 t.2 = Nat.gcd a b ∧ (digs 1000000000 t.1).length < 17592186044416 ∧ (digs 1000000000 t.2).length < 17592186044416 ∧ ρ 0 = natT t.1 ∧ ρ 1 = natT t.2) (fun t => t.2) (a, b) ⟨rfl, rfl, ha, hb, rfl, rfl⟩ ?_
  rintro ⟨x, y⟩ ρ H ⟨rfl, hg, hx, hy, g0, g1⟩
  simp only at hg hx hy g0 g1
  by_cases hy0 : y = 0
  · subst hy0
    have hl : ¬ (0 : Int) < ((digs 1000000000 0).length : Int) := by rw [lenT_pos]; omega
    rw [Nat.gcd_zero_right] at hg
    simp only [spec_l01Gcd_b0, g0, g1, len_natT, hl, VX, Nat.reduceEqDiff, Nat.reduceAdd]
    rw [hg]
    exact fz_res (natT_pure _)
  · have hl : (0 : Int) < ((digs 1000000000 y).length : Int) := lenT_pos.2 hy0
    have c3 := spec_l01NatDiv_v x y hy0 hx hy
    have hm := Nat.mod_lt x (show 0 < y by omega)
    simp only [spec_l01Gcd_b0, g0, g1, len_natT, hl, c3, VX, Nat.reduceEqDiff, Nat.reduceAdd]
    refine ⟨(y, x % y), hm, ?_, hy, ?_, rfl, rfl⟩
    · simp only
      rw [← hg, Nat.gcd_comm x y, Nat.gcd_rec y x, Nat.gcd_comm]
    · simp only
      have := digs_len_mono (b := 1000000000) (by decide) (Nat.le_of_lt hm)
      omega
def ratT (q : Rat) : VV := .agg [VB (decide (q.num < 0)), natT q.num.natAbs, natT q.den]
theorem ratT_pure (q : Rat) : pureV (ratT q) = true := by simp [ratT, pureV, pureL, natT_pure, isSc]
theorem ratT_res (q : Rat) : resV (ratT q) = true := by simp [ratT, resV, resL, natT_res, isSc]
theorem ratT_of {q : Rat} {neg : Bool} {t b : Nat} (h0 : q.num < 0 ↔ neg = true) (h1 : q.num.natAbs = t) (h2 : q.den = b) : ratT q = .agg [VB neg, natT t, natT b] := by
  subst h1 h2
  unfold ratT
  congr 4
  cases neg <;> simp_all
theorem vscal_natT (n : Nat) : vscal (natT n) = true := rfl
theorem isAny_natT (n : Nat) : isAny (natT n) = false := rfl
theorem vcells_natT (n : Nat) : vcells (natT n) = [natT n] := rfl
theorem isAny_ratT (q : Rat) : isAny (ratT q) = false := rfl
theorem vcells_ratT (q : Rat) : vcells (ratT q) = [VB (decide (q.num < 0)), natT q.num.natAbs, natT q.den] := rfl
theorem rd_ratT (q : Rat) : rdCells true 3 (ratT q) 0 = some (ratT q) := rfl
theorem rd_ratT0 (q : Rat) : rdCells false 1 (ratT q) 0 = some (VB (decide (q.num < 0))) := rfl
theorem rd_ratT1 (q : Rat) : rdCells false 1 (ratT q) 1 = some (natT q.num.natAbs) := rfl
theorem rd_ratT2 (q : Rat) : rdCells false 1 (ratT q) 2 = some (natT q.den) := rfl
theorem fz_partsT {H : VHeap} {neg : Bool} {t b : Nat} : fz depth H (.agg [VB neg, natT t, natT b]) = some (.agg [VB neg, natT t, natT b]) := fz_res (by simp [pureV, pureL, natT_pure, isSc])
theorem cmp_one {n lo : Nat} {H : VHeap} {K : VV → VHeap → Prop} (h : (digs 1000000000 n).length ≤ 17592186044416) : vcallP 40 [natT n, .tree [VI 1] (.cl 1)] lo H K = K (VI (cmpI n 1)) H := by
  have c := spec_l01Cmp_v n 1 h (by rw [digs_single (by decide) (by decide) (by decide)]; simp)
  have e : natT 1 = .tree [VI 1] .op := by rw [natT, digs_single (by decide) (by decide) (by decide)]; rfl
  rw [e] at c
  exact TC.args c rfl (by simp only [pureL, natT_pure]; rfl) (fz2 (fz_res (natT_pure n)) (fz_cl rfl)) (by simp only [List.flatMap_cons, List.flatMap_nil, fzIds_pure (natT_pure n), fzIds_cl (es := [VI 1]) rfl, List.append_nil]) lo K
theorem litT_cl {d : Int} {H : VHeap} : vlit false [.int .i64 0] 1 [(0, VI d)] H = some (.tree [VI d] (.cl 1), H) := litT_one
theorem spec_l01Make_v (neg : Bool) (t b : Nat) (hb : b ≠ 0) (ht : bl t ≤ 4398046511104) (hbl : bl b ≤ 4398046511104) : TC 24 [VB neg, natT t, natT b] (ratT (mkRat (sgn neg t) b)) := by
  refine TC.walk ⟨true, false⟩ spec_l01Make_t rfl (Nat.le_of_ble_eq_true rfl) (by simp [pureL, natT_pure, pureV, isSc]) (ratT_res _) ?_
  have hg0 : Nat.gcd t b ≠ 0 := Nat.gcd_ne_zero_right hb
  have hgl : bl (Nat.gcd t b) ≤ 4398046511104 := Nat.le_trans (bl_mono (Nat.gcd_le_right t (by omega))) hbl
  have c1 := spec_l01Gcd_v t b (capT ht) (capT hbl)
  have c2 := spec_l01NatDiv_v t _ hg0 (capT ht) (capT hgl)
  have c3 := spec_l01NatDiv_v b _ hg0 (capT hbl) (capT hgl)
  have c4 : ∀ lo H K, _ := fun lo H K => cmp_one (n := Nat.gcd t b) (lo := lo) (H := H) (K := K) (Nat.le_of_lt (capT hgl))
  have hres : ratT (mkRat (sgn neg t) b) = .agg [VB (neg && decide (t / Nat.gcd t b ≠ 0)), natT (t / Nat.gcd t b), natT (b / Nat.gcd t b)] := by
    refine ratT_of ?_ (by rw [mk_num hb, sgn_abs]) (mk_den hb)
    rw [mk_num hb, sgn_neg, Bool.and_eq_true, decide_eq_true_eq]
  rw [hres]
  by_cases h1 : cmpI (Nat.gcd t b) 1 = 0
  · have hg1 := cmpI_zero.1 h1
    have e1 : t / Nat.gcd t b = t := by rw [hg1, Nat.div_one]
    have e2 : b / Nat.gcd t b = b := by rw [hg1, Nat.div_one]
    rw [e1, e2]
    cases neg with
    | false =>
      simp only [spec_l01Make, spec_l01Make_c, c1, c4, h1, litT_cl, vscal_natT, isAny_natT, vcells_natT, vload_pdef, vstore_pdef, viaddr_rdef, vlen_rdef, vfaddr_pdef, vchk_pdef, visnil_rdef, visnil_nil, visnil_cons, vrow_zero, vrow_succ, List.set_cons_zero, List.set_cons_succ, elemOf_one, elemOf_two, vresult, vresAll, vres1, vfill, isAny_sc, isAny_tree, isAny_ref, isAny_agg, isAny_clo, List.take_zero, List.take_succ_cons, List.take_nil, List.drop_zero, List.drop_succ_cons, List.drop_nil, List.append_nil, Nat.reduceLeDiff, Nat.le_refl, vsplice, Nat.reduceLT, Int.toNat_natCast, eq_self, ge_iff_le, Bool.and_eq_true, Nat.reduceSub, VX, Nat.reduceEqDiff, Nat.reduceAdd]
      exact fz_partsT
    | true =>
      by_cases h0 : t = 0
      · have hl : ¬ (0 : Int) < ((digs 1000000000 t).length : Int) := by rw [lenT_pos]; omega
        simp only [spec_l01Make, spec_l01Make_c, c1, c4, h1, hl, len_natT, litT_cl, vscal_natT, isAny_natT, vcells_natT, vload_pdef, vstore_pdef, viaddr_rdef, vlen_rdef, vfaddr_pdef, vchk_pdef, visnil_rdef, visnil_nil, visnil_cons, vrow_zero, vrow_succ, List.set_cons_zero, List.set_cons_succ, elemOf_one, elemOf_two, vresult, vresAll, vres1, vfill, isAny_sc, isAny_tree, isAny_ref, isAny_agg, isAny_clo, List.take_zero, List.take_succ_cons, List.take_nil, List.drop_zero, List.drop_succ_cons, List.drop_nil, List.append_nil, Nat.reduceLeDiff, Nat.le_refl, vsplice, Nat.reduceLT, Int.toNat_natCast, eq_self, ge_iff_le, Bool.and_eq_true, Nat.reduceSub, VX, Nat.reduceEqDiff, Nat.reduceAdd]
        rw [h0]
        exact fz_partsT
      · have hl : (0 : Int) < ((digs 1000000000 t).length : Int) := lenT_pos.2 h0
        simp only [spec_l01Make, spec_l01Make_c, c1, c4, h1, hl, len_natT, litT_cl, vscal_natT, isAny_natT, vcells_natT, vload_pdef, vstore_pdef, viaddr_rdef, vlen_rdef, vfaddr_pdef, vchk_pdef, visnil_rdef, visnil_nil, visnil_cons, vrow_zero, vrow_succ, List.set_cons_zero, List.set_cons_succ, elemOf_one, elemOf_two, vresult, vresAll, vres1, vfill, isAny_sc, isAny_tree, isAny_ref, isAny_agg, isAny_clo, List.take_zero, List.take_succ_cons, List.take_nil, List.drop_zero, List.drop_succ_cons, List.drop_nil, List.append_nil, Nat.reduceLeDiff, Nat.le_refl, vsplice, Nat.reduceLT, Int.toNat_natCast, eq_self, ge_iff_le, Bool.and_eq_true, Nat.reduceSub, VX, Nat.reduceEqDiff, Nat.reduceAdd]
        rw [decide_eq_true h0]
        exact fz_partsT
  · cases neg with
    | false =>
      simp only [spec_l01Make, spec_l01Make_c, c1, c2, c3, c4, h1, litT_cl, vscal_natT, isAny_natT, vcells_natT, vload_pdef, vstore_pdef, viaddr_rdef, vlen_rdef, vfaddr_pdef, vchk_pdef, visnil_rdef, visnil_nil, visnil_cons, vrow_zero, vrow_succ, List.set_cons_zero, List.set_cons_succ, elemOf_one, elemOf_two, vresult, vresAll, vres1, vfill, isAny_sc, isAny_tree, isAny_ref, isAny_agg, isAny_clo, List.take_zero, List.take_succ_cons, List.take_nil, List.drop_zero, List.drop_succ_cons, List.drop_nil, List.append_nil, Nat.reduceLeDiff, Nat.le_refl, vsplice, Nat.reduceLT, Int.toNat_natCast, eq_self, ge_iff_le, Bool.and_eq_true, Nat.reduceSub, VX, Nat.reduceEqDiff, Nat.reduceAdd]
      exact fz_partsT
    | true =>
      generalize t / Nat.gcd t b = t' at *
      by_cases h0 : t' = 0
      · have hl : ¬ (0 : Int) < ((digs 1000000000 t').length : Int) := by rw [lenT_pos]; omega
        simp only [spec_l01Make, spec_l01Make_c, c1, c2, c3, c4, h1, hl, len_natT, litT_cl, vscal_natT, isAny_natT, vcells_natT, vload_pdef, vstore_pdef, viaddr_rdef, vlen_rdef, vfaddr_pdef, vchk_pdef, visnil_rdef, visnil_nil, visnil_cons, vrow_zero, vrow_succ, List.set_cons_zero, List.set_cons_succ, elemOf_one, elemOf_two, vresult, vresAll, vres1, vfill, isAny_sc, isAny_tree, isAny_ref, isAny_agg, isAny_clo, List.take_zero, List.take_succ_cons, List.take_nil, List.drop_zero, List.drop_succ_cons, List.drop_nil, List.append_nil, Nat.reduceLeDiff, Nat.le_refl, vsplice, Nat.reduceLT, Int.toNat_natCast, eq_self, ge_iff_le, Bool.and_eq_true, Nat.reduceSub, VX, Nat.reduceEqDiff, Nat.reduceAdd]
        rw [h0]
        exact fz_partsT
      · have hl : (0 : Int) < ((digs 1000000000 t').length : Int) := lenT_pos.2 h0
        simp only [spec_l01Make, spec_l01Make_c, c1, c2, c3, c4, h1, hl, len_natT, litT_cl, vscal_natT, isAny_natT, vcells_natT, vload_pdef, vstore_pdef, viaddr_rdef, vlen_rdef, vfaddr_pdef, vchk_pdef, visnil_rdef, visnil_nil, visnil_cons, vrow_zero, vrow_succ, List.set_cons_zero, List.set_cons_succ, elemOf_one, elemOf_two, vresult, vresAll, vres1, vfill, isAny_sc, isAny_tree, isAny_ref, isAny_agg, isAny_clo, List.take_zero, List.take_succ_cons, List.take_nil, List.drop_zero, List.drop_succ_cons, List.drop_nil, List.append_nil, Nat.reduceLeDiff, Nat.le_refl, vsplice, Nat.reduceLT, Int.toNat_natCast, eq_self, ge_iff_le, Bool.and_eq_true, Nat.reduceSub, VX, Nat.reduceEqDiff, Nat.reduceAdd]
        rw [decide_eq_true h0]
        exact fz_partsT
end Go.PM

/- Fractions: their texts. -/
namespace Go.PM
open Go.Lib
theorem dec_dec {m n : Nat} (h : decDigits m = decDigits n) : m = n := by
  have key : ∀ k m n : Nat, m < 10 ^ (k + 1) → decDigits m = decDigits n → m = n := by
    intro k
    induction k with
    | zero =>
      intro m n hm h
      rw [dec_small (by omega)] at h
      by_cases hn : n < 10
      · rw [dec_small hn] at h
        have h1 := List.singleton_inj.1 h
        unfold d10 at h1
        have := congrArg UInt8.toNat h1
        simp at this
        omega
      · rw [dec_big hn] at h
        have := congrArg List.length h
        have h2 := List.length_pos_iff.2 (dec_ne (n / 10))
        simp only [List.length_append, List.length_cons, List.length_nil] at this
        omega
    | succ k ih =>
      intro m n hm h
      by_cases h1 : m < 10
      · rw [dec_small h1] at h
        by_cases hn : n < 10
        · rw [dec_small hn] at h
          have h1 := List.singleton_inj.1 h
          unfold d10 at h1
          have := congrArg UInt8.toNat h1
          simp at this
          omega
        · rw [dec_big hn] at h
          have := congrArg List.length h
          have h2 := List.length_pos_iff.2 (dec_ne (n / 10))
          simp only [List.length_append, List.length_cons, List.length_nil] at this
          omega
      · rw [dec_big h1] at h
        by_cases hn : n < 10
        · rw [dec_small hn] at h
          have := congrArg List.length h
          have h2 := List.length_pos_iff.2 (dec_ne (m / 10))
          simp only [List.length_append, List.length_cons, List.length_nil] at this
          omega
        · rw [dec_big hn] at h
          obtain ⟨h2, h3⟩ := List.append_inj' h rfl
          have h4 := ih (m / 10) (n / 10) (by rw [Nat.pow_succ] at hm; omega) h2
          have h5 := List.singleton_inj.1 h3
          unfold d10 at h5
          have := congrArg UInt8.toNat h5
          simp at this
          omega
  exact key m m n (Nat.lt_trans (Nat.lt_pow_self (by decide)) (Nat.pow_lt_pow_right (by decide) (Nat.lt_succ_self m))) h
def showQ (q : Rat) : List UInt8 := (if q.num < 0 then [45] else []) ++ decDigits q.num.natAbs ++ (if q.den = 1 then [] else 47 :: decDigits q.den)
def fitsQ (q : Rat) : Bool := decide ((decDigits q.num.natAbs).length ≤ 200) && decide ((decDigits q.den).length ≤ 200)
theorem dec_bits (n : Nat) : (decDigits n).length ≤ bl n + 1 := by
  by_cases h : n = 0
  · subst h; rw [dec_small (by decide)]; simp
  · have h1 := bl_pos h
    obtain ⟨k, hk⟩ : ∃ k, bl n = k + 1 := ⟨bl n - 1, by omega⟩
    have h2 := bl_lt n
    rw [hk] at h2 ⊢
    have h3 : 2 ^ (k + 1) ≤ 10 ^ (k + 1) := Nat.pow_le_pow_left (by decide) _
    have := dec_len_le n k (by omega)
    omega
end Go.PM

/- The program's fractions: their texts. -/
namespace Go.PM
open Go.Lib
theorem str_neq (a b : List UInt8) : pbin .neq (.string ⟨a.toArray⟩) (.string ⟨b.toArray⟩) = some (.bool (!decide (a = b))) := by
  have h : ∀ l : List UInt8, (ByteArray.toList ⟨l.toArray⟩) = l := fun l => by rw [ByteArray.toList_eq]
  show some (Value.bool (!(ByteArray.toList ⟨a.toArray⟩ == ByteArray.toList ⟨b.toArray⟩))) = _
  rw [h, h]
  congr 3
  cases h2 : a == b
  · rw [decide_eq_false (by simpa using h2)]
  · rw [decide_eq_true (by simpa using h2)]
theorem str_eql (a b : List UInt8) : pbin .eql (.string ⟨a.toArray⟩) (.string ⟨b.toArray⟩) = some (.bool (decide (a = b))) := by
  have h : ∀ l : List UInt8, (ByteArray.toList ⟨l.toArray⟩) = l := fun l => by rw [ByteArray.toList_eq]
  show some (Value.bool (ByteArray.toList ⟨a.toArray⟩ == ByteArray.toList ⟨b.toArray⟩)) = _
  rw [h, h]
  congr 2
  cases h2 : a == b
  · rw [decide_eq_false (by simpa using h2)]
  · rw [decide_eq_true (by simpa using h2)]
theorem den_is_one {n : Nat} : (decDigits n = [49]) ↔ n = 1 := by
  have e : decDigits 1 = [49] := by rw [dec_small (by decide)]; rfl
  rw [← e]
  exact ⟨dec_dec, fun h => by rw [h]⟩
theorem impl_rat_text_v (q : Rat) (hk : rbits q ≤ 1099511627776) : TC 47 [ratV q] (.tup [strV (showQ q), VB (fitsQ q)]) := by
  refine TC.walk ⟨true, false⟩ _impl_rat__text_t rfl (Nat.le_of_ble_eq_true rfl) (by simp [pureL, ratV_pure]) rfl ?_
  have la := num_bl hk
  have lb := den_bl hk
  have t1 := impl_nat_text_v q.num.natAbs (capW (by omega))
  have t2 := impl_nat_text_v q.den (capW (by omega))
  have d1 := dec_bits q.num.natAbs
  have d2 := dec_bits q.den
  have a1 : pbin .add (.string ⟨#[45]⟩) (.string ⟨(decDigits q.num.natAbs).toArray⟩) = some (.string ⟨(45 :: decDigits q.num.natAbs).toArray⟩) := str_add [45] _ (by simp only [List.length_cons, List.length_nil]; omega)
  have a2 : pbin .add (.string ⟨#[47]⟩) (.string ⟨(decDigits q.den).toArray⟩) = some (.string ⟨(47 :: decDigits q.den).toArray⟩) := str_add [47] (decDigits q.den) (by simp only [List.length_cons, List.length_nil]; omega)
  have a3 := str_add (45 :: decDigits q.num.natAbs) (47 :: decDigits q.den) (by simp only [List.length_cons]; omega)
  have a4 := str_add (decDigits q.num.natAbs) (47 :: decDigits q.den) (by simp only [List.length_cons]; omega)
  have ne : pbin .neq (.string ⟨(decDigits q.den).toArray⟩) (.string ⟨#[49]⟩) = _ := str_neq (decDigits q.den) [49]
  have hf : fitsQ q = (decide (((decDigits q.num.natAbs).length : Int) ≤ 200) && decide (((decDigits q.den).length : Int) ≤ 200)) := by
    unfold fitsQ
    congr 1 <;> exact decide_eq_decide.2 (by omega)
  rw [hf]
  have hs : showQ q = (if q.num < 0 then (45 :: decDigits q.num.natAbs) else decDigits q.num.natAbs) ++ (if q.den = 1 then [] else 47 :: decDigits q.den) := by
    unfold showQ
    by_cases hn : q.num < 0
    · rw [if_pos hn, if_pos hn]; rfl
    · rw [if_neg hn, if_neg hn]; rfl
  rw [hs]
  by_cases hd : q.den = 1
  · rw [decide_eq_true (den_is_one.2 hd)] at ne
    rw [if_pos hd, List.append_nil]
    by_cases hn : q.num < 0 <;> by_cases hl : ((decDigits q.num.natAbs).length : Int) ≤ 200
    all_goals
      simp only [_impl_rat__text, _impl_rat__text_c, t1, t2, a1, a2, a3, a4, ne, hn, hl, slen_str, vcells_rat, rd_rat, rd_rat0, rd_rat1, rd_rat2, isAny_rat, vscal_nat, isAny_nat, vcells_nat, vload_pdef, vstore_pdef, viaddr_rdef, vlen_rdef, vfaddr_pdef, vchk_pdef, visnil_rdef, visnil_nil, visnil_cons, vrow_zero, vrow_succ, List.set_cons_zero, List.set_cons_succ, elemOf_one, elemOf_two, vresult, vresAll, vres1, vfill, isAny_sc, isAny_tree, isAny_ref, isAny_agg, isAny_clo, List.take_zero, List.take_succ_cons, List.take_nil, List.drop_zero, List.drop_succ_cons, List.drop_nil, List.append_nil, Nat.reduceLeDiff, Nat.le_refl, vsplice, Nat.reduceLT, Int.toNat_natCast, eq_self, ge_iff_le, Bool.and_eq_true, Nat.reduceSub, VX, Nat.reduceEqDiff, Nat.reduceAdd]
      exact fz_res rfl
  · rw [decide_eq_false (mt den_is_one.1 hd)] at ne
    rw [if_neg hd]
    by_cases hn : q.num < 0 <;> by_cases hl : ((decDigits q.num.natAbs).length : Int) ≤ 200
    all_goals
      simp only [_impl_rat__text, _impl_rat__text_c, t1, t2, a1, a2, a3, a4, ne, hn, hl, slen_str, vcells_rat, rd_rat, rd_rat0, rd_rat1, rd_rat2, isAny_rat, vscal_nat, isAny_nat, vcells_nat, vload_pdef, vstore_pdef, viaddr_rdef, vlen_rdef, vfaddr_pdef, vchk_pdef, visnil_rdef, visnil_nil, visnil_cons, vrow_zero, vrow_succ, List.set_cons_zero, List.set_cons_succ, elemOf_one, elemOf_two, vresult, vresAll, vres1, vfill, isAny_sc, isAny_tree, isAny_ref, isAny_agg, isAny_clo, List.take_zero, List.take_succ_cons, List.take_nil, List.drop_zero, List.drop_succ_cons, List.drop_nil, List.append_nil, Nat.reduceLeDiff, Nat.le_refl, vsplice, Nat.reduceLT, Int.toNat_natCast, eq_self, ge_iff_le, Bool.and_eq_true, Nat.reduceSub, VX, Nat.reduceEqDiff, Nat.reduceAdd]
      exact fz_res rfl
def toldQ (q : Rat) : VV := if fitsQ q = true then .tup [strV (showQ q), VB true] else .tup [strV [], VB false]
theorem toldQ_res (q : Rat) : resV (toldQ q) = true := by unfold toldQ; split <;> rfl
theorem impl_told_v (q : Rat) (hk : rbits q ≤ 1099511627776) : TC 33 [ratV q] (toldQ q) := by
  refine TC.walk ⟨true, false⟩ impl_told_t rfl (Nat.le_of_ble_eq_true rfl) (by simp [pureL, ratV_pure]) (toldQ_res q) ?_
  have t1 := impl_rat_text_v q hk
  unfold toldQ
  by_cases h : fitsQ q = true
  · rw [h] at t1
    rw [if_pos h]
    simp only [impl_told, impl_told_c, t1, vcells_rat, rd_rat, isAny_rat, vscal_nat, isAny_nat, vcells_nat, vload_pdef, vstore_pdef, viaddr_rdef, vlen_rdef, vfaddr_pdef, vchk_pdef, visnil_rdef, visnil_nil, visnil_cons, vrow_zero, vrow_succ, List.set_cons_zero, List.set_cons_succ, elemOf_one, elemOf_two, vresult, vresAll, vres1, vfill, isAny_sc, isAny_tree, isAny_ref, isAny_agg, isAny_clo, List.take_zero, List.take_succ_cons, List.take_nil, List.drop_zero, List.drop_succ_cons, List.drop_nil, List.append_nil, Nat.reduceLeDiff, Nat.le_refl, vsplice, Nat.reduceLT, Int.toNat_natCast, eq_self, ge_iff_le, Bool.and_eq_true, Nat.reduceSub, VX, Nat.reduceEqDiff, Nat.reduceAdd]
    exact fz_res rfl
  · have h' : fitsQ q = false := by simpa using h
    rw [h'] at t1
    rw [if_neg h]
    simp only [impl_told, impl_told_c, t1, vcells_rat, rd_rat, isAny_rat, vscal_nat, isAny_nat, vcells_nat, vload_pdef, vstore_pdef, viaddr_rdef, vlen_rdef, vfaddr_pdef, vchk_pdef, visnil_rdef, visnil_nil, visnil_cons, vrow_zero, vrow_succ, List.set_cons_zero, List.set_cons_succ, elemOf_one, elemOf_two, vresult, vresAll, vres1, vfill, isAny_sc, isAny_tree, isAny_ref, isAny_agg, isAny_clo, List.take_zero, List.take_succ_cons, List.take_nil, List.drop_zero, List.drop_succ_cons, List.drop_nil, List.append_nil, Nat.reduceLeDiff, Nat.le_refl, vsplice, Nat.reduceLT, Int.toNat_natCast, eq_self, ge_iff_le, Bool.and_eq_true, Nat.reduceSub, VX, Nat.reduceEqDiff, Nat.reduceAdd]
    exact fz_res rfl
def fracQ (t b : Int) : Rat := mkRat (sgn (decide (t < 0) != decide (b < 0)) t.natAbs) b.natAbs
theorem bl64 {n : Nat} (h : n ≤ 9223372036854775808) : bl n ≤ 64 := bl_le (by omega)
theorem fracQ_bits {t b : Int} (ht : t.natAbs ≤ 9223372036854775808) (hb : b.natAbs ≤ 9223372036854775808) : rbits (fracQ t b) ≤ 64 := rbits_mk (by rw [sgn_abs]; exact bl64 ht) (bl64 hb) (by decide)
def makeQ (t b : Int) : VV := if b = 0 then .tup [strV [], VB false] else toldQ (fracQ t b)
theorem makeQ_res (t b : Int) : resV (makeQ t b) = true := by 
  unfold makeQ
  split
  · rfl
  · exact toldQ_res _
theorem impl_MakeFraction_v (t b : Int) (ht0 : -9223372036854775808 ≤ t) (ht1 : t ≤ 9223372036854775807) (hb0 : -9223372036854775808 ≤ b) (hb1 : b ≤ 9223372036854775807) : TC 21 [VI t, VI b] (makeQ t b) := by
  refine TC.walk ⟨true, false⟩ impl_MakeFraction_t rfl (Nat.le_of_ble_eq_true rfl) rfl (makeQ_res t b) ?_
  unfold makeQ
  by_cases h : b = 0
  · rw [if_pos h]
    simp only [impl_MakeFraction, impl_MakeFraction_c, h, vload_pdef, vstore_pdef, viaddr_rdef, vlen_rdef, vfaddr_pdef, vchk_pdef, visnil_rdef, visnil_nil, visnil_cons, vrow_zero, vrow_succ, List.set_cons_zero, List.set_cons_succ, elemOf_one, elemOf_two, vresult, vresAll, vres1, vfill, isAny_sc, isAny_tree, isAny_ref, isAny_agg, isAny_clo, List.take_zero, List.take_succ_cons, List.take_nil, List.drop_zero, List.drop_succ_cons, List.drop_nil, List.append_nil, Nat.reduceLeDiff, Nat.le_refl, vsplice, Nat.reduceLT, Int.toNat_natCast, eq_self, ge_iff_le, Bool.and_eq_true, Nat.reduceSub, VX, Nat.reduceEqDiff, Nat.reduceAdd]
    exact fz_res rfl
  · rw [if_neg h]
    have m1 := impl_magnitude_v t ht0 ht1
    have m2 := impl_magnitude_v b hb0 hb1
    have n1 := impl_natOf_v t.natAbs (by omega)
    have n2 := impl_natOf_v b.natAbs (by omega)
    have k1 := bl64 (n := t.natAbs) (by omega)
    have k2 := bl64 (n := b.natAbs) (by omega)
    have l1 := impl_lowest_v (decide (t < 0) != decide (b < 0)) t.natAbs b.natAbs (by omega) (by omega) (by omega)
    have t1 := impl_told_v (fracQ t b) (Nat.le_trans (fracQ_bits (by omega) (by omega)) (by decide))
    have x : toldQ (fracQ t b) = .tup [(if fitsQ (fracQ t b) = true then strV (showQ (fracQ t b)) else strV []), VB (fitsQ (fracQ t b))] := by
      unfold toldQ
      cases fitsQ (fracQ t b) <;> rfl
    rw [x] at t1 ⊢
    unfold fracQ at *
    simp only [impl_MakeFraction, impl_MakeFraction_c, h, m1, m2, n1, n2, l1, t1, eqb_bT, vcells_rat, rd_rat, isAny_rat, vscal_nat, isAny_nat, vcells_nat, vload_pdef, vstore_pdef, viaddr_rdef, vlen_rdef, vfaddr_pdef, vchk_pdef, visnil_rdef, visnil_nil, visnil_cons, vrow_zero, vrow_succ, List.set_cons_zero, List.set_cons_succ, elemOf_one, elemOf_two, vresult, vresAll, vres1, vfill, isAny_sc, isAny_tree, isAny_ref, isAny_agg, isAny_clo, List.take_zero, List.take_succ_cons, List.take_nil, List.drop_zero, List.drop_succ_cons, List.drop_nil, List.append_nil, Nat.reduceLeDiff, Nat.le_refl, vsplice, Nat.reduceLT, Int.toNat_natCast, eq_self, ge_iff_le, Bool.and_eq_true, Nat.reduceSub, VX, Nat.reduceEqDiff, Nat.reduceAdd]
    exact fz_res (by cases fitsQ (mkRat (sgn (decide (t < 0) != decide (b < 0)) t.natAbs) b.natAbs) <;> rfl)
end Go.PM

/- The reference's fractions: their texts. -/
namespace Go.PM
open Go.Lib
abbrev bV (b : UInt8) : VV := .sc (.int .u8 (b.toNat : Int))
theorem vbytes_map : ∀ bs : List UInt8, vbytes (bs.map bV) = some bs
  | [] => rfl
  | b :: bs => by
    rw [List.map_cons]
    show (vbytes (bs.map bV)).map (UInt8.ofNat ((b.toNat : Int)).toNat :: ·) = _
    rw [vbytes_map bs]
    simp
structure OutB (v : VV) (H : VHeap) (bs : List UInt8) : Prop where
  len : vlen v H = some (VI bs.length)
  src : vsource 1 v H = some (bs.map bV)
  nsc : ∀ x, v ≠ .sc x
theorem OutB.str {v : VV} {H : VHeap} {bs : List UInt8} (h : OutB v H bs) {fl : Fl} {lo : Nat} {x : Operand} {ρ : VEnv} (hx : vev ρ x = v) : vop fl lo (.b2s x) ρ H = some (strV bs, H) := by
  have h1 := h.nsc
  have h2 := h.src
  unfold vop
  dsimp only
  rw [hx]
  cases v with
  | sc x => exact absurd rfl (h1 x)
  | _ => simp only [h2, vbytes_map, Option.map_some]
theorem srcB_tree {bs : List UInt8} {k : TK} {H : VHeap} : vsource 1 (.tree (bs.map bV) k) H = some (bs.map bV) := by
  have : ((bs.map bV).all fun x => (vcells x).length == 1 && (vcells x).all vscal) = true := by
    rw [List.all_eq_true]
    intro x hx
    obtain ⟨d, _, rfl⟩ := List.mem_map.1 hx
    rfl
  simp only [vsource, this, if_true]
theorem OutB.tree {bs : List UInt8} {k : TK} {H : VHeap} : OutB (.tree (bs.map bV) k) H bs := ⟨vlen_map, srcB_tree, fun x => by simp⟩
theorem OutB.row {bs : List UInt8} {H : VHeap} {b g : Nat} {w : Bool} (h : vrow H b g = some (bs.map bV, 1, w)) : OutB (.ref b g 0 bs.length bs.length) H bs := by
  refine ⟨vlen_ref h, ?_, fun x => by simp⟩
  have hall : (((bs.map bV).drop 0).take bs.length).all (fun x => (vcells x).all vscal) = true := by
    rw [List.all_eq_true]
    intro x hx
    obtain ⟨d, _, rfl⟩ := List.mem_map.1 (List.mem_of_mem_drop (List.mem_of_mem_take hx))
    rfl
  simp only [vsource, h]
  rw [if_pos ⟨trivial, by simp, hall⟩, List.drop_zero, List.take_of_length_le (by simp)]
theorem OutB.cons {v : VV} {H : VHeap} {bs : List UInt8} (h : OutB v H bs) (x : UInt8) (hl : bs.length ≤ 1000000) (lo : Nat) : ∃ v' H', vappend lo 1 1 (.tree [bV x] (.cl 1)) (bs.map bV) H = some (v', H') ∧ OutB v' H' (x :: bs) := by
  by_cases hb : bs = []
  · subst hb
    exact ⟨_, _, rfl, OutB.tree (bs := [x])⟩
  · have hne : bs.length ≠ 0 := fun h => hb (List.length_eq_zero_iff.1 h)
    refine ⟨.ref H.length 0 0 (x :: bs).length (x :: bs).length, H ++ [.row 0 ((x :: bs).map bV) 1 true], ?_, OutB.row (vrow_top rfl)⟩
    simp only [vappend, List.length_map]
    rw [if_pos ⟨by decide, by decide⟩, if_pos trivial, if_neg hne, if_pos (by simp; omega)]
    simp [Nat.add_comm]
theorem rem10 (r : Int) : pbin .rem (.int .i64 r) (.int .i64 10) = some (.int .i64 (r.tmod 10)) := rfl
theorem quo10 (r : Int) (h0 : -9223372036854775808 ≤ r) (h1 : r ≤ 9223372036854775807) : pbin .quo (.int .i64 r) (.int .i64 10) = some (.int .i64 (r.tdiv 10)) := by
  show some (Value.int .i64 (IntKind.i64.wrap (r.tdiv 10))) = _
  have h2 : (r.tdiv 10).natAbs = r.natAbs / 10 := by rw [Int.natAbs_tdiv]; rfl
  rw [wrap64 (by omega) (by omega)]
theorem d10_toNat {d : Nat} (h : d < 10) : (d10 d).toNat = 48 + d := by
  unfold d10
  simp
  omega
theorem head_step {n r : Nat} {bs : List UInt8} (h : decDigits n = decDigits r ++ bs) : decDigits n = head10 (r / 10) ++ d10 (r % 10) :: bs := by
  rw [h]
  by_cases hr : r < 10
  · rw [dec_small hr, head10, if_pos (by omega), Nat.mod_eq_of_lt hr]; rfl
  · rw [dec_big hr, head10, if_neg (by omega), List.append_assoc]; rfl
theorem spec_l01Dec_v (n : Int) (h0 : -9223372036854775808 ≤ n) (h1 : n ≤ 9223372036854775807) : TC 67 [VI n] (strV ((if n < 0 then [45] else []) ++ decDigits n.natAbs)) := by
  refine TC.walk ⟨true, false⟩ spec_l01Dec_t rfl (Nat.le_of_ble_eq_true rfl) rfl rfl ?_
  have e0 : ∀ lr, vlit lr [.int .u8 0] 0 [] [] = some (.ref 0 0 0 0 0, [.row 0 (([] : List UInt8).map bV) 1 true]) := fun lr => vlit_nil (H := []) rfl
  have e1 : ∀ (x : UInt8) (H : VHeap), vlit false [.int .u8 0] 1 [(0, bV x)] H = some (.tree [bV x] (.cl 1), H) := fun x H => vlit_one rfl rfl rfl
  have hdl := dec_len_le n.natAbs 19 (by omega)
  simp only [spec_l01Dec, spec_l01Dec_c, e0, VX, Nat.reduceEqDiff, Nat.reduceAdd]
  refine VW_loop (fun (s : Int × List UInt8) ρ H => -9223372036854775808 ≤ s.1 ∧ s.1 ≤ 9223372036854775807 ∧ (s.2 = [] → s.1 = n) ∧ (s.2 ≠ [] → decDigits n.natAbs = head10 s.1.natAbs ++ s.2) ∧ OutB (ρ 3) H s.2 ∧ ρ 0 = VI n ∧ ρ 4 = VI s.1) (fun s => s.1.natAbs + (if s.2 = [] then 1 else 0)) (n, []) ⟨h0, h1, fun _ => rfl, fun h => absurd rfl h, by simp only [VX, Nat.reduceEqDiff, Nat.reduceAdd]; exact OutB.row (bs := []) vrow_zero, rfl, rfl⟩ ?_
  rintro ⟨r, bs⟩ ρ H ⟨hr0, hr1, hn, hd, ho, g0, g4⟩
  simp only at hr0 hr1 hn hd ho g4
  generalize hv3 : ρ 3 = v3 at ho
  have hlen := ho.len
  have hsrc := ho.src
  by_cases hend : bs ≠ [] ∧ r = 0
  · obtain ⟨hb, hr⟩ := hend
    subst hr
    have hl : ¬ (bs.length : Int) = 0 := by have := List.length_pos_iff.2 hb; omega
    have hdd := hd hb
    simp only [head10, Int.natAbs_zero, if_true, List.nil_append] at hdd
    by_cases hneg : n < 0
    · obtain ⟨v', H', ap, ho'⟩ := ho.cons 45 (by rw [← hdd]; omega) 0
      have e1' : vlit false [.int .u8 0] 1 [(0, .sc (.int .u8 45))] H = some (.tree [bV 45] (.cl 1), H) := e1 45 H
      have bs2 := fun ρ' (h : vev ρ' (.tmp 34) = v') => ho'.str (fl := ⟨true, false⟩) (lo := 0) h
      simp only [spec_l01Dec_b0, g0, g4, hv3, hlen, hl, VX, Nat.reduceEqDiff, Nat.reduceAdd]
      simp only [g0, hneg, hv3, e1', hsrc, ap, vst_b2s, VX, Nat.reduceEqDiff, Nat.reduceAdd]
      rw [bs2 _ (by rfl)]
      simp only [VX, Nat.reduceEqDiff, Nat.reduceAdd]
      rw [hdd]
      exact fz_res rfl
    · have bs2 := fun ρ' (h : vev ρ' (.tmp 34) = v3) => ho.str (fl := ⟨true, false⟩) (lo := 0) h
      simp only [spec_l01Dec_b0, g0, g4, hv3, hlen, hl, VX, Nat.reduceEqDiff, Nat.reduceAdd]
      simp only [g0, hneg, hv3, vst_b2s, VX, Nat.reduceEqDiff, Nat.reduceAdd]
      rw [bs2 _ (by simp only [VX, Nat.reduceEqDiff, Nat.reduceAdd]; try exact hv3)]
      simp only [VX, Nat.reduceEqDiff, Nat.reduceAdd]
      rw [hdd]
      exact fz_res rfl
  · have hm : r.tmod 10 = if r < 0 then -((r.natAbs % 10 : Nat) : Int) else ((r.natAbs % 10 : Nat) : Int) := by
      have := Int.tmod_eq_emod_of_nonneg (a := r) (b := 10)
      by_cases h : r < 0
      · rw [if_pos h]
        have h2 := Int.neg_tmod (-r) 10
        rw [Int.neg_neg] at h2
        rw [h2, Int.tmod_eq_emod_of_nonneg (by omega)]
        omega
      · rw [if_neg h, this (by omega)]
        omega
    have hq : (r.tdiv 10).natAbs = r.natAbs / 10 := by rw [Int.natAbs_tdiv]; rfl
    have hmd := Nat.mod_lt r.natAbs (show 0 < 10 by decide)
    have q1 := quo10 r hr0 hr1
    have hbl : bs.length ≤ 19 := by
      by_cases hb : bs = []
      · subst hb; simp
      · have h2 := hd hb
        have h3 := congrArg List.length h2
        rw [List.length_append] at h3
        have h4 : r ≠ 0 := fun h => hend ⟨hb, h⟩
        have h5 := List.length_pos_iff.2 (dec_ne r.natAbs)
        rw [head10, if_neg (by omega)] at h3
        omega
    obtain ⟨v', H', ap, ho'⟩ := ho.cons (d10 (r.natAbs % 10)) (by omega) 0
    have w2 : IntKind.i64.wrap (48 + ((r.natAbs % 10 : Nat) : Int)) = ((48 + r.natAbs % 10 : Nat) : Int) := wrapN _ (by omega) (by omega)
    have w3 : IntKind.u8.wrap ((48 + r.natAbs % 10 : Nat) : Int) = ((48 + r.natAbs % 10 : Nat) : Int) := by
      simp [IntKind.wrap, IntKind.bits, IntKind.signed]
      omega
    have hx : VV.sc (.int .u8 ((48 + r.natAbs % 10 : Nat) : Int)) = bV (d10 (r.natAbs % 10)) := by rw [bV, d10_toNat hmd]
    have e1' := e1 (d10 (r.natAbs % 10)) H
    rw [← hx] at e1' ap
    have next : ∃ s' : Int × List UInt8, s'.1.natAbs + (if s'.2 = [] then 1 else 0) < r.natAbs + (if bs = [] then 1 else 0) ∧ -9223372036854775808 ≤ s'.1 ∧ s'.1 ≤ 9223372036854775807 ∧ (s'.2 = [] → s'.1 = n) ∧ (s'.2 ≠ [] → decDigits n.natAbs = head10 s'.1.natAbs ++ s'.2) ∧ OutB v' H' s'.2 ∧ r.tdiv 10 = s'.1 := by
      refine ⟨(r.tdiv 10, d10 (r.natAbs % 10) :: bs), ?_, by simp only; omega, by simp only; omega, fun h => (by simp at h), fun _ => ?_, ho', rfl⟩
      · simp only [hq, List.cons_ne_nil, if_false]
        by_cases hb : bs = []
        · rw [if_pos hb]; omega
        · have h4 : r ≠ 0 := fun h => hend ⟨hb, h⟩
          rw [if_neg hb]; omega
      · simp only [hq]
        by_cases hb : bs = []
        · subst hb
          refine head_step ?_
          rw [hn rfl, List.append_nil]
        · have h4 : r ≠ 0 := fun h => hend ⟨hb, h⟩
          have h2 := hd hb
          rw [head10, if_neg (by omega)] at h2
          exact head_step h2
    by_cases hrn : r.tmod 10 < 0
    · have w1 : IntKind.i64.wrap (0 - r.tmod 10) = ((r.natAbs % 10 : Nat) : Int) := by
        have : r.tmod 10 = -((r.natAbs % 10 : Nat) : Int) := by
          by_cases h : r < 0
          · rw [if_pos h] at hm; exact hm
          · rw [if_neg h] at hm; omega
        rw [this]
        exact wrapN _ (by omega) (by omega)
      by_cases hb : bs = []
      · have hl : (bs.length : Int) = 0 := by rw [hb]; rfl
        simp only [spec_l01Dec_b0, g0, g4, hv3, hlen, hl, rem10, q1, hrn, w1, w2, w3, e1', hsrc, ap, VX, Nat.reduceEqDiff, Nat.reduceAdd]
        obtain ⟨s', n1, n2, n3, n4, n5, n6, n7⟩ := next
        exact ⟨s', n1, n2, n3, n4, n5, n6, by rw [n7]⟩
      · have hl : ¬ (bs.length : Int) = 0 := by have := List.length_pos_iff.2 hb; omega
        have hr : ¬ r = 0 := fun h => hend ⟨hb, h⟩
        simp only [spec_l01Dec_b0, g0, g4, hv3, hlen, hl, hr, rem10, q1, hrn, w1, w2, w3, e1', hsrc, ap, VX, Nat.reduceEqDiff, Nat.reduceAdd]
        obtain ⟨s', n1, n2, n3, n4, n5, n6, n7⟩ := next
        exact ⟨s', n1, n2, n3, n4, n5, n6, by rw [n7]⟩
    · have hmm : r.tmod 10 = ((r.natAbs % 10 : Nat) : Int) := by
        rw [hm] at hrn ⊢
        split
        · rename_i h; rw [if_pos h] at hrn; omega
        · rfl
      have hrn' : ¬ ((r.natAbs % 10 : Nat) : Int) < 0 := by omega
      by_cases hb : bs = []
      · have hl : (bs.length : Int) = 0 := by rw [hb]; rfl
        simp only [spec_l01Dec_b0, g0, g4, hv3, hlen, hl, rem10, hmm, q1, hrn', w2, w3, e1', hsrc, ap, VX, Nat.reduceEqDiff, Nat.reduceAdd]
        obtain ⟨s', n1, n2, n3, n4, n5, n6, n7⟩ := next
        exact ⟨s', n1, n2, n3, n4, n5, n6, by rw [n7]⟩
      · have hl : ¬ (bs.length : Int) = 0 := by have := List.length_pos_iff.2 hb; omega
        have hr : ¬ r = 0 := fun h => hend ⟨hb, h⟩
        simp only [spec_l01Dec_b0, g0, g4, hv3, hlen, hl, hr, rem10, hmm, q1, hrn', w2, w3, e1', hsrc, ap, VX, Nat.reduceEqDiff, Nat.reduceAdd]
        obtain ⟨s', n1, n2, n3, n4, n5, n6, n7⟩ := next
        exact ⟨s', n1, n2, n3, n4, n5, n6, by rw [n7]⟩
end Go.PM
