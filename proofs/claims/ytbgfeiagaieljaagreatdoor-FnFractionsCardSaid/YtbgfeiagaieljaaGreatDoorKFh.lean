/- Texts of a claim, in one: part 8. -/
import Derived.Lib.Bytealg
import Derived.Lib.ParseIntB
import Derived.Test.YtbgfeiagaieljaaGreatDoorKFg
/- The program's numbers of at least 0: long division, the digits of the quotient. -/
set_option linter.unusedSimpArgs false
set_option linter.unusedVariables false
namespace Go.PM
theorem guess_loop {seg vs us ws os : List Nat} {n u2 u1 u0 v1 v0 N k g left : Nat} (G : Guess 4294967296 seg vs n u2 u1 u0 v1 v0) {ρ : VEnv} {Q : VQ} (hN : us.length = N) (hk2 : 2 ≤ k) (hkN : k < N) (hcap : N ≤ 70368744177664) (hu0 : us[k - 2]? = some u0)
    (g9 : ρ 9 = .ref 0 0 0 N N) (g11 : ρ 11 = VK .u64 v1) (g12 : ρ 12 = VK .u64 v0) (g15 : ρ 15 = VI k) (g17 : ρ 17 = VK .u64 g) (g18 : ρ 18 = VK .u64 left) (hh : u2 * 4294967296 + u1 = g * v1 + left) (hq : val 4294967296 seg / val 4294967296 vs ≤ g) (hl : left < 4294967296) (hgb : g < 18446744073709551616)
    (hQ : ∀ (ρ' : VEnv) (g' : Nat), val 4294967296 seg / val 4294967296 vs ≤ g' → g' ≤ val 4294967296 seg / val 4294967296 vs + 1 → g' < 4294967296 → ρ' 17 = VK .u64 g' → ρ' 8 = ρ 8 → ρ' 9 = ρ 9 → ρ' 10 = ρ 10 → ρ' 11 = ρ 11 → ρ' 12 = ρ 12 → ρ' 13 = ρ 13 → ρ' 14 = ρ 14 → ρ' 15 = ρ 15 → Q (.exit 2) ρ' (H3 us ws os)) :
    VW ⟨true, false⟩ 0 (.loop _impl_nat__div_b0) Q ρ (H3 us ws os) := by
  have lv1 := G.lt_v1
  have lv0 := G.lt_v0
  have lu0 := G.lt_u0
  have qlt := G.q_lt
  have hpos := G.pos
  refine VW_loop (fun (t : Nat × Nat) ρ' H => H = H3 us ws os ∧ u2 * 4294967296 + u1 = t.1 * v1 + t.2 ∧ val 4294967296 seg / val 4294967296 vs ≤ t.1 ∧ t.2 < 4294967296 ∧ t.1 < 18446744073709551616 ∧
    ρ' 9 = .ref 0 0 0 N N ∧ ρ' 11 = VK .u64 v1 ∧ ρ' 12 = VK .u64 v0 ∧ ρ' 15 = VI k ∧ ρ' 17 = VK .u64 t.1 ∧ ρ' 18 = VK .u64 t.2 ∧ ρ' 8 = ρ 8 ∧ ρ' 10 = ρ 10 ∧ ρ' 13 = ρ 13 ∧ ρ' 14 = ρ 14) (fun t => 4294967296 - t.2) (g, left) ⟨rfl, hh, hq, hl, hgb, g9, g11, g12, g15, g17, g18, rfl, rfl, rfl, rfl⟩ ?_
  rintro ⟨g, left⟩ ρ2 H ⟨rfl, hh, hq, hl, hgb, k9, k11, k12, k15, k17, k18, k8, k10, k13, k14⟩
  simp only at hh hq hl hgb k17 k18
  have e1 : viaddr 1 (.ref 0 0 0 N N) (VI ((k - 2 : Nat) : Int)) (H3 us ws os) = some (.ptr 0 0 (k - 2) 0) := by rw [viaddr_row H3_0 (by omega), Nat.zero_add]
  have e2 : vload false 1 (.ptr 0 0 (k - 2) 0) (H3 us ws os) = some (uV u0) := vload_nat H3_0 hu0
  have wk : IntKind.i64.wrap ((k : Int) - 2) = ((k - 2 : Nat) : Int) := wrapN _ (by omega) (by omega)
  have wu : IntKind.u64.wrap (u0 : Int) = (u0 : Int) := wrapU _ (by omega)
  have ws := shl_u64 left .u64 hl
  have wa : IntKind.u64.wrap (((left * 4294967296 : Nat) : Int) + (u0 : Int)) = ((left * 4294967296 + u0 : Nat) : Int) := by rw [← Int.natCast_add]; exact wrapU _ (by omega)
  have wl : IntKind.u64.wrap ((left : Int) + (v1 : Int)) = ((left + v1 : Nat) : Int) := by rw [← Int.natCast_add]; exact wrapU _ (by omega)
  have same : ρ2 9 = ρ 9 ∧ ρ2 11 = ρ 11 ∧ ρ2 12 = ρ 12 ∧ ρ2 15 = ρ 15 := ⟨by rw [k9, g9], by rw [k11, g11], by rw [k12, g12], by rw [k15, g15]⟩
  obtain ⟨s9, s11, s12, s15⟩ := same
  have down : val 4294967296 seg / val 4294967296 vs < g → ∃ g', g = g' + 1 ∧ IntKind.u64.wrap ((g : Int) - 1) = (g' : Int) ∧ u2 * 4294967296 + u1 = g' * v1 + (left + v1) ∧ val 4294967296 seg / val 4294967296 vs ≤ g' := by
    intro h
    have hg1 : 1 ≤ g := Nat.lt_of_le_of_lt (Nat.zero_le _) h
    obtain ⟨g', rfl⟩ : ∃ g', g = g' + 1 := ⟨g - 1, by omega⟩
    refine ⟨g', rfl, ?_, ?_, by omega⟩
    · rw [show ((g' + 1 : Nat) : Int) - 1 = (g' : Int) by omega]
      exact wrapU _ (by omega)
    · rw [hh, Nat.add_mul]
      omega
  by_cases hA : (4294967296 : Int) ≤ (g : Int)
  · obtain ⟨g', hg', wg, hh', hq'⟩ := down (by omega)
    by_cases hB : (4294967296 : Int) ≤ ((left + v1 : Nat) : Int)
    · obtain ⟨c1, c2⟩ := G.broken hh' (by omega)
      simp only [_impl_nat__div_b0, k9, k11, k12, k15, k17, k18, hA, hB, wg, wl, VX, Nat.reduceEqDiff, Nat.reduceAdd]
      exact hQ _ g' hq' (G.fine hh' (by omega) c2) c1 rfl k8 s9 k10 s11 s12 k13 k14 s15
    · simp only [_impl_nat__div_b0, k9, k11, k12, k15, k17, k18, hA, hB, wg, wl, VX, Nat.reduceEqDiff, Nat.reduceAdd]
      exact ⟨(g', left + v1), by simp only; omega, hh', hq', by simp only; omega, by simp only; omega, by rfl, by rfl, k8, k10, k13, k14⟩
  · have hgv : g * v0 ≤ 4294967295 * 4294967295 := Nat.mul_le_mul (by omega) (by omega)
    have wm : IntKind.u64.wrap ((g : Int) * (v0 : Int)) = ((g * v0 : Nat) : Int) := by rw [← Int.natCast_mul]; exact wrapU _ (by omega)
    by_cases hT : ((left * 4294967296 + u0 : Nat) : Int) < ((g * v0 : Nat) : Int)
    · obtain ⟨g', hg', wg, hh', hq'⟩ := down (G.too hh (by omega))
      by_cases hB : (4294967296 : Int) ≤ ((left + v1 : Nat) : Int)
      · obtain ⟨c1, c2⟩ := G.broken hh' (by omega)
        simp only [_impl_nat__div_b0, k9, k11, k12, k15, k17, k18, hA, hB, hT, e1, e2, wk, wu, ws, wa, wm, wg, wl, VX, Nat.reduceEqDiff, Nat.reduceAdd]
        exact hQ _ g' hq' (G.fine hh' (by omega) c2) c1 rfl k8 s9 k10 s11 s12 k13 k14 s15
      · simp only [_impl_nat__div_b0, k9, k11, k12, k15, k17, k18, hA, hB, hT, e1, e2, wk, wu, ws, wa, wm, wg, wl, VX, Nat.reduceEqDiff, Nat.reduceAdd]
        exact ⟨(g', left + v1), by simp only; omega, hh', hq', by simp only; omega, by simp only; omega, by rfl, by rfl, k8, k10, k13, k14⟩
    · simp only [_impl_nat__div_b0, k9, k11, k12, k15, k17, k18, hA, hT, e1, e2, wk, wu, ws, wa, wm, VX, Nat.reduceEqDiff, Nat.reduceAdd]
      exact hQ _ g hq (G.fine hh (by omega) (by omega)) (by omega) k17 k8 s9 k10 s11 s12 k13 k14 s15
theorem digit_step {X S S' R V q Q P w : Nat} (hs : S = q * V + S') (h : X + P * S + P * w * V * Q = R) : X + P * S' + P * V * (q + w * Q) = R := by
  subst hs
  grind
theorem div_loop {us0 ws os0 vs : List Nat} {N m n v1 v0 A s : Nat} {ρ : VEnv} {Q : VQ} (hN : us0.length = N) (hm : m + (n + 2) = N) (hcap : N ≤ 70368744177664) (hud : ∀ d ∈ us0, d < 4294967296) (hws : ws.take (n + 2) = vs) (hwl : ws.length = n + 3) (hvl : vs.length = n + 2) (hvd : ∀ d ∈ vs, d < 4294967296) (f1 : vs[n + 1]? = some v1) (f0 : vs[n]? = some v0) (hpos : 1 ≤ v1)
    (hA : val 4294967296 us0 = A) (hless : val 4294967296 (us0.drop m) < val 4294967296 vs) (hol : os0.length = m) (hod : ∀ d ∈ os0, d < 4294967296)
    (g8 : ρ 8 = VI s) (g9 : ρ 9 = .ref 0 0 0 N N) (g10 : ρ 10 = .ref 1 0 0 (n + 2) (n + 3)) (g11 : ρ 11 = VK .u64 v1) (g12 : ρ 12 = VK .u64 v0) (g13 : ρ 13 = .ref 2 0 0 m m) (g14 : ρ 14 = VI ((m : Int) - 1))
    (hQ : ∀ (ρ' : VEnv) (us os : List Nat), ρ' 8 = VI s → ρ' 9 = .ref 0 0 0 N N → ρ' 13 = .ref 2 0 0 m m → us.length = N → (∀ d ∈ us, d < 4294967296) → os.length = m → (∀ d ∈ os, d < 4294967296) → val 4294967296 us + val 4294967296 vs * val 4294967296 os = A → val 4294967296 us < val 4294967296 vs → Q (.exit 0) ρ' (H3 us ws os)) :
    VW ⟨true, false⟩ 0 (.loop _impl_nat__div_b1) Q ρ (H3 us0 ws os0) := by
  have hVb := val_lt hvd
  rw [hvl] at hVb
  refine VW_loop (fun (t : Nat × List Nat × List Nat) ρ' H => t.1 ≤ m ∧ H = H3 t.2.1 ws t.2.2 ∧ t.2.1.length = N ∧ (∀ d ∈ t.2.1, d < 4294967296) ∧ t.2.2.length = m ∧ (∀ d ∈ t.2.2, d < 4294967296) ∧ val 4294967296 (t.2.1.drop t.1) < val 4294967296 vs ∧ val 4294967296 t.2.1 + 4294967296 ^ t.1 * val 4294967296 vs * val 4294967296 (t.2.2.drop t.1) = A ∧
    ρ' 8 = VI s ∧ ρ' 9 = .ref 0 0 0 N N ∧ ρ' 10 = .ref 1 0 0 (n + 2) (n + 3) ∧ ρ' 11 = VK .u64 v1 ∧ ρ' 12 = VK .u64 v0 ∧ ρ' 13 = .ref 2 0 0 m m ∧ ρ' 14 = VI ((t.1 : Int) - 1)) (fun t => t.1) (m, us0, os0) ⟨Nat.le_refl _, rfl, hN, hud, hol, hod, hless, by rw [List.drop_of_length_le (by simp only; omega)]; simpa [val] using hA, g8, g9, g10, g11, g12, g13, g14⟩ ?_
  rintro ⟨j, us, os⟩ ρ2 H ⟨hj, rfl, hul, hud, hol, hod, hlt, hv, k8, k9, k10, k11, k12, k13, k14⟩
  simp only at hj hul hud hol hod hlt hv k14
  by_cases hz : (0 : Int) ≤ (j : Int) - 1
  · obtain ⟨i, rfl⟩ : ∃ i, j = i + 1 := ⟨j - 1, by omega⟩
    have hji : ((i + 1 : Nat) : Int) - 1 = (i : Int) := by omega
    rw [hji] at k14 hz
    obtain ⟨hsplit, hpre, hsl, hsW, hdrop, hpost, hget⟩ := seg_facts (n := n + 2) hul (by omega) hud hVb hlt
    generalize hseg : (us.drop i).take (n + 2 + 1) = seg at *
    have hsd : ∀ d ∈ seg, d < 4294967296 := fun d hd => by rw [← hseg] at hd; exact hud d (List.mem_of_mem_drop (List.mem_of_mem_take hd))
    obtain ⟨u2, hu2⟩ : ∃ u2, us[i + (n + 2)]? = some u2 := ⟨_, List.getElem?_eq_getElem (by omega)⟩
    obtain ⟨u1, hu1⟩ : ∃ u1, us[i + (n + 1)]? = some u1 := ⟨_, List.getElem?_eq_getElem (by omega)⟩
    obtain ⟨u0, hu0⟩ : ∃ u0, us[i + n]? = some u0 := ⟨_, List.getElem?_eq_getElem (by omega)⟩
    have G : Guess 4294967296 seg vs n u2 u1 u0 v1 v0 := ⟨by decide, hsd, hvd, hsl, hvl, by rw [hget _ (by omega)]; exact hu2, by rw [hget _ (by omega)]; exact hu1, by rw [hget _ (by omega)]; exact hu0, f1, f0, hpos, hsW⟩
    have lu2 := G.lt_u2
    have lu1 := G.lt_u1
    have lv1 := G.lt_v1
    have qlt := G.q_lt
    have vpos := G.vpos
    have hlen10 : vlen (.ref 1 0 0 (n + 2) (n + 3)) (H3 us ws os) = some (VI ((n + 2 : Nat) : Int)) := vlen_ref H3_1
    have w1 : IntKind.i64.wrap ((i : Int) + ((n + 2 : Nat) : Int)) = ((i + (n + 2) : Nat) : Int) := by rw [← Int.natCast_add]; exact wrapN _ rfl (by omega)
    have w2 : IntKind.i64.wrap (((i + (n + 2) : Nat) : Int) - 1) = ((i + (n + 1) : Nat) : Int) := wrapN _ (by omega) (by omega)
    have e2 : viaddr 1 (.ref 0 0 0 N N) (VI ((i + (n + 2) : Nat) : Int)) (H3 us ws os) = some (.ptr 0 0 (i + (n + 2)) 0) := by rw [viaddr_row H3_0 (by omega), Nat.zero_add]
    have e1 : viaddr 1 (.ref 0 0 0 N N) (VI ((i + (n + 1) : Nat) : Int)) (H3 us ws os) = some (.ptr 0 0 (i + (n + 1)) 0) := by rw [viaddr_row H3_0 (by omega), Nat.zero_add]
    have l2 : vload false 1 (.ptr 0 0 (i + (n + 2)) 0) (H3 us ws os) = some (uV u2) := vload_nat H3_0 hu2
    have l1 : vload false 1 (.ptr 0 0 (i + (n + 1)) 0) (H3 us ws os) = some (uV u1) := vload_nat H3_0 hu1
    have wu2 : IntKind.u64.wrap (u2 : Int) = (u2 : Int) := wrapU _ (by omega)
    have wu1 : IntKind.u64.wrap (u1 : Int) = (u1 : Int) := wrapU _ (by omega)
    have ws2 := shl_u64 u2 .u64 lu2
    have wa : IntKind.u64.wrap (((u2 * 4294967296 : Nat) : Int) + (u1 : Int)) = ((u2 * 4294967296 + u1 : Nat) : Int) := by rw [← Int.natCast_add]; exact wrapU _ (by omega)
    have q1 := quo_u64 (u2 * 4294967296 + u1) v1 (by omega) hpos
    have q2 := rem_u64 (u2 * 4294967296 + u1) v1 hpos
    simp only [_impl_nat__div_b1, k8, k9, k10, k11, k12, k13, k14, hz, hlen10, w1, w2, e1, e2, l1, l2, wu1, wu2, ws2, wa, q1, q2, VX, Nat.reduceEqDiff, Nat.reduceAdd]
    have hh := Nat.mod_add_div (u2 * 4294967296 + u1) v1
    have hml := Nat.mod_lt (u2 * 4294967296 + u1) hpos
    have hdl : (u2 * 4294967296 + u1) / v1 ≤ u2 * 4294967296 + u1 := Nat.div_le_self _ _
    have hq0 : val 4294967296 seg / val 4294967296 vs ≤ (u2 * 4294967296 + u1) / v1 := by
      have t1 := (val_top2 (n := n + 1) (xs := seg) hsd (by omega) (by rw [hget _ (by omega)]; exact hu2) (by rw [hget _ (by omega)]; exact hu1)).2
      have t2 := (val_top (n := n + 1) hvd hvl f1).1
      rw [Nat.le_div_iff_mul_le hpos]
      have t3 : val 4294967296 seg / val 4294967296 vs * (v1 * 4294967296 ^ (n + 1)) ≤ val 4294967296 seg / val 4294967296 vs * val 4294967296 vs := Nat.mul_le_mul_left _ t2
      have t4 := Nat.div_mul_le_self (val 4294967296 seg) (val 4294967296 vs)
      have t5 : val 4294967296 seg / val 4294967296 vs * v1 * 4294967296 ^ (n + 1) < (u2 * 4294967296 + u1 + 1) * 4294967296 ^ (n + 1) := by rw [Nat.mul_assoc]; omega
      have := Nat.lt_of_mul_lt_mul_right t5
      omega
    refine guess_loop (k := i + (n + 2)) G hul (by omega) (by omega) hcap (by rw [show i + (n + 2) - 2 = i + n by omega]; exact hu0) k9 k11 k12 (by rfl) (by rfl) (by rfl) (by rw [Nat.mul_comm ((u2 * 4294967296 + u1) / v1)]; omega) hq0 (by omega) (by omega) ?_
    intro ρ3 g' hq hq' hgW r17 r8 r9 r10 r11 r12 r13 r14 r15
    have r15' : ρ3 15 = VI ((i + (n + 2) : Nat) : Int) := r15
    have r8' : ρ3 8 = VI s := r8.trans k8
    have r9' : ρ3 9 = .ref 0 0 0 N N := r9.trans k9
    have r10' : ρ3 10 = .ref 1 0 0 (n + 2) (n + 3) := r10.trans k10
    have r11' : ρ3 11 = VK .u64 v1 := r11.trans k11
    have r12' : ρ3 12 = VK .u64 v0 := r12.trans k12
    have r13' : ρ3 13 = .ref 2 0 0 m m := r13.trans k13
    have r14' : ρ3 14 = VI i := r14.trans k14
    have w3 : IntKind.i64.wrap (((i + (n + 2) : Nat) : Int) + 1) = ((i + (n + 3) : Nat) : Int) := wrapN _ (by omega) (by omega)
    have hsub : vsub 1 (.ref 0 0 0 N N) (some (VI i)) (some (VI ((i + (n + 3) : Nat) : Int))) none (H3 us ws os) = some (.ref 0 0 i (n + 3) (N - i)) := by
      rw [vsub_ref H3_0 (by omega) (by omega), Nat.zero_add, Nat.add_sub_cancel_left]
    simp only [r8', r9', r10', r11', r12', r13', r14', r15', r17, w3, hsub, VX, Nat.reduceEqDiff, Nat.reduceAdd]
    have hfit : g' * val 4294967296 vs ≤ val 4294967296 seg + val 4294967296 vs := by
      have := Nat.mul_le_mul_right (val 4294967296 vs) hq'
      rw [Nat.add_mul, Nat.one_mul] at this
      have := Nat.div_mul_le_self (val 4294967296 seg) (val 4294967296 vs)
      omega
    refine vcall_raw rfl ((takeAway_v (pre := us.take i) (seg := seg) (post := us.drop (i + (n + 2 + 1))) (L := n + 3) (o := i) (by rw [← hsplit]; exact H3_0) (H3_1 (us := us) (ws := ws) (os := os)) (by decide) (Nat.zero_le _) hpre hsl (by omega) hws (by omega) (by omega) hsd hvd hgW hfit).mono ?_)
    rintro r H' ⟨seg', rfl, hl', hd', hr⟩
    generalize hus' : us.take i ++ seg' ++ us.drop (i + (n + 2 + 1)) = us' at *
    have hset : (H3 us ws os).set 0 (.row 0 (us'.map uV) 1 true) = H3 us' ws os := rfl
    rw [hset]
    have hul' : us'.length = N := by rw [← hus', List.length_append, List.length_append, hpre, hl', List.length_drop]; omega
    have hud' : ∀ d ∈ us', d < 4294967296 := fun d hd => by
      rw [← hus', List.mem_append, List.mem_append] at hd
      rcases hd with (hd | hd) | hd
      · exact hud d (List.mem_of_mem_take hd)
      · exact hd' d hd
      · exact hud d (List.mem_of_mem_drop hd)
    have hdrop' : us'.drop i = seg' ++ us.drop (i + (n + 2 + 1)) := by rw [← hus', List.append_assoc, List.drop_append, List.drop_of_length_le (by omega), hpre]; simp
    have htake' : us'.take i = us.take i := by rw [← hus', List.append_assoc, List.take_append_of_le_length (by omega), List.take_of_length_le (by omega)]
    have hval' : val 4294967296 (us'.drop i) = val 4294967296 seg' := by rw [hdrop', val_append, hpost, Nat.mul_zero, Nat.add_zero]
    have digit : ∀ q : Nat, q = val 4294967296 seg / val 4294967296 vs → val 4294967296 seg' = val 4294967296 seg % val 4294967296 vs →
        val 4294967296 (us'.drop i) < val 4294967296 vs ∧ val 4294967296 us' + 4294967296 ^ i * val 4294967296 vs * val 4294967296 ((os.set i q).drop i) = A := by
      rintro q hqe hse
      have hml2 := Nat.mod_lt (val 4294967296 seg) vpos
      refine ⟨by rw [hval', hse]; exact hml2, ?_⟩
      have h1 := Nat.div_add_mod (val 4294967296 seg) (val 4294967296 vs)
      rw [← hqe, ← hse, Nat.mul_comm] at h1
      have h2 := val_split (b := 4294967296) us i
      have h3 := val_split (b := 4294967296) us' i
      rw [htake', hpre, hval'] at h3
      rw [hpre, hdrop] at h2
      rw [set_drop (by omega), val_cons, h3]
      rw [h2, Nat.pow_succ] at hv
      exact digit_step h1.symm hv
    have e3 : ∀ d : Nat, viaddr 1 (.ref 2 0 0 m m) (VI i) (H3 us' ws os) = some (.ptr 2 0 i 0) ∧ vstore 0 1 (.ptr 2 0 i 0) (uV d) (H3 us' ws os) = some (H3 us' ws (os.set i d)) := fun d => by
      refine ⟨by rw [viaddr_row H3_2 (by omega), Nat.zero_add], ?_⟩
      rw [vstore_map (f := uV) (e := 1) H3_2 (by omega) (Nat.zero_le _) rfl rfl]
      rfl
    have wi : IntKind.i64.wrap ((i : Int) - 1) = (i : Int) - 1 := wrap64 (by omega) (by omega)
    rcases hr with ⟨rfl, hr⟩ | ⟨rfl, hr1, hr2⟩
    · have hge : g' * val 4294967296 vs ≤ val 4294967296 seg := by omega
      have hqe : g' = val 4294967296 seg / val 4294967296 vs := by
        have := (Nat.le_div_iff_mul_le vpos).2 hge
        omega
      have hse : val 4294967296 seg' = val 4294967296 seg % val 4294967296 vs := by
        have h1 := Nat.div_add_mod (val 4294967296 seg) (val 4294967296 vs)
        rw [← hqe, Nat.mul_comm] at h1
        omega
      obtain ⟨d1, d2⟩ := digit g' hqe hse
      simp only [r8', r9', r10', r11', r12', r13', r14', r15', r17, (e3 g').1, (e3 g').2, wi, wrap32, Nat.mod_eq_of_lt hgW, VX, Nat.reduceEqDiff, Nat.reduceAdd]
      exact ⟨(i, us', os.set i g'), by simp only; omega, by omega, rfl, hul', hud', by rw [List.length_set]; exact hol, set_lt hod hgW, d1, d2, by (repeat' apply And.intro) <;> first | rfl | trivial⟩
    · have hlt2 : val 4294967296 seg / val 4294967296 vs < g' := (Nat.div_lt_iff_lt_mul vpos).2 hr1
      have hg1 : 1 ≤ g' := Nat.lt_of_le_of_lt (Nat.zero_le _) hlt2
      obtain ⟨q, rfl⟩ : ∃ q, g' = q + 1 := ⟨g' - 1, by omega⟩
      have hqe : q = val 4294967296 seg / val 4294967296 vs := by omega
      have hse : val 4294967296 seg' = val 4294967296 seg % val 4294967296 vs := by
        have h1 := Nat.div_add_mod (val 4294967296 seg) (val 4294967296 vs)
        rw [← hqe, Nat.mul_comm] at h1
        rw [Nat.add_mul, Nat.one_mul] at hr2
        omega
      have wq : IntKind.u64.wrap (((q + 1 : Nat) : Int) - 1) = (q : Int) := by rw [show ((q + 1 : Nat) : Int) - 1 = (q : Int) by omega]; exact wrapU _ (by omega)
      obtain ⟨d1, d2⟩ := digit q hqe hse
      simp only [r8', r9', r10', r11', r12', r13', r14', r15', r17, wq, (e3 q).1, (e3 q).2, wi, wrap32, Nat.mod_eq_of_lt (show q < 4294967296 by omega), VX, Nat.reduceEqDiff, Nat.reduceAdd]
      exact ⟨(i, us', os.set i q), by simp only; omega, by omega, rfl, hul', hud', by rw [List.length_set]; exact hol, set_lt hod (by omega), d1, d2, by (repeat' apply And.intro) <;> first | rfl | trivial⟩
  · have hj0 : j = 0 := by omega
    subst hj0
    rw [List.drop_zero] at hlt
    rw [Nat.pow_zero, Nat.one_mul, List.drop_zero] at hv
    simp only [_impl_nat__div_b1, k8, k9, k10, k11, k12, k13, k14, hz, VX, Nat.reduceEqDiff, Nat.reduceAdd]
    exact hQ _ us os k8 k9 k13 hul hud hol hod hv hlt
end Go.PM
/- The program's numbers of at least 0: quotient and remainder; the greatest common divisor. -/
namespace Go.PM
theorem digs_top {a n : Nat} (hn : (digs 4294967296 a).length = n + 1) : ∃ d, (digs 4294967296 a)[n]? = some d ∧ d ≠ 0 ∧ d < 4294967296 := by
  obtain ⟨d, hd⟩ : ∃ d, (digs 4294967296 a)[n]? = some d := ⟨_, List.getElem?_eq_getElem (by omega)⟩
  refine ⟨d, hd, fun h0 => ?_, digs_lt (by decide) a d (List.mem_of_getElem? hd)⟩
  have := digs_last (b := 4294967296) (by decide) a
  rw [List.getLast?_eq_getElem?, hn, Nat.add_sub_cancel, hd, h0] at this
  exact this rfl
theorem digs_one {a d : Nat} (h : digs 4294967296 a = [d]) : a = d ∧ 0 < d ∧ d < 4294967296 := by
  have h1 := val_digs (b := 4294967296) (by decide) a
  rw [h, val_one] at h1
  obtain ⟨e, h2, h3, h4⟩ := digs_top (a := a) (n := 0) (by rw [h]; rfl)
  rw [h] at h2
  cases h2
  exact ⟨h1.symm, by omega, h4⟩
theorem impl_nat_div_v (a b : Nat) (hb : b ≠ 0) (ha : (digs 4294967296 a).length ≤ 17592186044416) (hbl : (digs 4294967296 b).length ≤ 17592186044416) : TC 139 [natV a, natV b] (.tup [natV (a / b), natV (a % b)]) := by
  refine TC.walk ⟨true, false⟩ _impl_nat__div_t rfl (Nat.le_of_ble_eq_true rfl) (by simp [pureL, natV_pure]) (by simp [resV, resL, natV_res]) ?_
  have c1 := impl_nat_cmp_v a b ha hbl
  by_cases hab : cmpI a b < 0
  · have hlt : a < b := by
      unfold cmpI at hab
      split at hab
      · assumption
      · split at hab <;> omega
    simp only [_impl_nat__div, _impl_nat__div_c, c1, hab, VX, Nat.reduceEqDiff, Nat.reduceAdd]
    rw [Nat.div_eq_of_lt hlt, Nat.mod_eq_of_lt hlt]
    exact fz_tup2 (d := 6) fz_nilD (fz_pure (natV_pure a))
  have hge : b ≤ a := by
    unfold cmpI at hab
    split at hab
    · omega
    · omega
  have hbn : (digs 4294967296 b).length ≠ 0 := fun h => hb ((digs_nil (b := 4294967296) (by decide)).1 (List.length_eq_zero_iff.1 h))
  by_cases h1 : (((digs 4294967296 b).length : Nat) : Int) = 1
  · obtain ⟨d, hd⟩ : ∃ d, digs 4294967296 b = [d] := by
      match hx : digs 4294967296 b with
      | [] => rw [hx] at hbn; exact absurd rfl hbn
      | [d] => exact ⟨d, rfl⟩
      | _ :: _ :: _ => rw [hx] at h1; simp at h1; omega
    obtain ⟨rfl, hd0, hdW⟩ := digs_one hd
    have c2 := impl_nat_divSmall_v a b hd0 hdW ha
    have e0 : vlen (natV b) [] = some (VI 1) := by rw [natV, natL, vlen_map, hd]; rfl
    have e1 : viaddr 1 (natV b) (VI 0) [] = some (.tptr (uV b) 0) := by
      rw [natV, hd]
      exact viaddr_map (f := uV) (t := .op) (H := []) (size := 1) (k := .i64) (xs := [b]) (i := 0) rfl rfl
    have e2 := vlit_one (H := []) (z := [.int .u32 0]) (v := uV (a % b)) rfl rfl rfl
    have e3 := rd_sc (size := 1) (v := Value.int .u32 ((b : Nat) : Int))
    simp only [_impl_nat__div, _impl_nat__div_c, c1, hab, e0, e1, c2, e2, VX, Nat.reduceEqDiff, Nat.reduceAdd]
    refine trim_callT (ds := [a % b]) (t := .cl 1) (fun d hd => ?_) (by show 1 ≤ 70368744177664; decide) (val_one _) fun t' ht => ?_
    · rw [List.mem_singleton] at hd
      subst hd
      exact Nat.lt_of_lt_of_le (Nat.mod_lt _ hd0) (Nat.le_of_lt hdW)
    · simp only [VX, Nat.reduceEqDiff, Nat.reduceAdd]
      exact fz_tup2 (d := 6) (fz_pure (natV_pure _)) (fz_natTD (d := 5) ht)
  obtain ⟨n, hn⟩ : ∃ n, (digs 4294967296 b).length = n + 2 := ⟨(digs 4294967296 b).length - 2, by omega⟩
  obtain ⟨t, ht, ht0, htW⟩ := digs_top (a := b) (n := n + 1) hn
  obtain ⟨s, hs, cl, htop⟩ := bitLen_top ht0 htW
  have hS : 0 < 2 ^ s := Nat.pow_pos (by decide)
  have hSW : 2 ^ s * 2 ^ (32 - s) = 4294967296 := by rw [← Nat.pow_add, show s + (32 - s) = 32 by omega]
  have hla := digs_len_mono (b := 4294967296) (by decide) hge
  have e0 : vlen (natV b) [] = some (VI ((n + 2 : Nat) : Int)) := by rw [natV, natL, vlen_map, hn]
  have w0 : IntKind.i64.wrap (((n + 2 : Nat) : Int) - 1) = ((n + 1 : Nat) : Int) := wrapN _ (by omega) (by omega)
  have h1' : ¬ (((n + 2 : Nat) : Int) = 1) := by omega
  have e1 : viaddr 1 (natV b) (VI ((n + 1 : Nat) : Int)) [] = some (.tptr (uV t) 0) := viaddr_map (f := uV) (t := .op) (H := []) (size := 1) (k := .i64) ht rfl
  simp only [_impl_nat__div, _impl_nat__div_c, c1, hab, e0, h1', w0, e1, cl, VX, Nat.reduceEqDiff, Nat.reduceAdd]
  have fa : [natV a, VI (s : Int)].mapM (fz depth ([] : VHeap)) = some [natV a, VI (s : Int)] := fz2 (fz_res (natV_pure a)) (fz_res rfl)
  refine FC.call (impl_nat_shifted_v a s hs ha) rfl fa ?_
  rintro r L ⟨outA, rfl, rfl, hAl, hAd, hAv, hAt⟩
  simp only [VX, Nat.reduceEqDiff, Nat.reduceAdd]
  have fb : ∀ H : VHeap, [natV b, VI (s : Int)].mapM (fz depth H) = some [natV b, VI (s : Int)] := fun H => fz2 (fz_res (natV_pure b)) (fz_res rfl)
  refine FC.call (impl_nat_shifted_v b s hs hbl) rfl (fb _) ?_
  rintro r L ⟨outB, rfl, rfl, hBl, hBd, hBv, hBt⟩
  rw [hn] at hBl
  simp only [hn, List.length_singleton, VX, Nat.reduceEqDiff, Nat.reduceAdd]
  have hVlt : b * 2 ^ s < 4294967296 ^ (n + 2) := by
    have h2 := (val_top (n := n + 1) (digs_lt (b := 4294967296) (by decide) b) hn ht).2
    rw [val_digs (by decide)] at h2
    have h3 : b * 2 ^ s < (t + 1) * 4294967296 ^ (n + 1) * 2 ^ s := Nat.mul_lt_mul_of_pos_right h2 hS
    have h4 : (t + 1) * 4294967296 ^ (n + 1) * 2 ^ s = (t + 1) * 2 ^ s * 4294967296 ^ (n + 1) := by grind
    have h5 : (t + 1) * 2 ^ s ≤ 4294967296 := by
      have h6 : t * 2 ^ s < 2 ^ (32 - s) * 2 ^ s := by rw [Nat.mul_comm (2 ^ (32 - s)), hSW]; exact htop
      have h7 := Nat.lt_of_mul_lt_mul_right h6
      have h8 : (t + 1) * 2 ^ s ≤ 2 ^ (32 - s) * 2 ^ s := Nat.mul_le_mul_right _ h7
      rwa [Nat.mul_comm (2 ^ (32 - s)), hSW] at h8
    have h9 : (t + 1) * 2 ^ s * 4294967296 ^ (n + 1) ≤ 4294967296 * 4294967296 ^ (n + 1) := Nat.mul_le_mul_right _ h5
    have h10 : 4294967296 * 4294967296 ^ (n + 1) = 4294967296 ^ (n + 2) := by rw [Nat.pow_succ 4294967296 (n + 1)]; exact Nat.mul_comm _ _
    omega
  have hVl : (digs 4294967296 (b * 2 ^ s)).length = n + 2 := by
    have h2 := digs_len_le (b := 4294967296) (by decide) hVlt
    have h3 : b ≤ b * 2 ^ s := Nat.le_mul_of_pos_right b hS
    have h4 := digs_len_mono (b := 4294967296) (by decide) h3
    omega
  refine trim_call (rows := outB) (m := b * 2 ^ s) (by rfl) (by omega) (by omega) (by omega) (fun d hd => hBd d (List.mem_of_mem_take hd)) (by rw [List.take_of_length_le (by omega)]; exact hBv) fun k hk he => ?_
  have hk2 : k = n + 2 := by
    have := congrArg List.length he
    rw [hVl, List.length_take] at this
    omega
  subst hk2
  generalize hvs : digs 4294967296 (b * 2 ^ s) = vs at *
  have hvd : ∀ d ∈ vs, d < 4294967296 := by rw [← hvs]; exact digs_lt (by decide) _
  have hvv : val 4294967296 vs = b * 2 ^ s := by rw [← hvs]; exact val_digs (by decide) _
  obtain ⟨v1, f1⟩ : ∃ v1, vs[n + 1]? = some v1 := ⟨_, List.getElem?_eq_getElem (by omega)⟩
  obtain ⟨v0, f0⟩ : ∃ v0, vs[n]? = some v0 := ⟨_, List.getElem?_eq_getElem (by omega)⟩
  have hv1 : 1 ≤ v1 := by
    obtain ⟨d, hd, hd0, _⟩ := digs_top (a := b * 2 ^ s) (n := n + 1) (by rw [hvs]; exact hVl)
    rw [hvs, f1] at hd
    cases hd
    omega
  have b1 : outB[n + 1]? = some v1 := by rw [← f1, ← he, List.getElem?_take_of_lt (by omega)]
  have b0 : outB[n]? = some v0 := by rw [← f0, ← he, List.getElem?_take_of_lt (by omega)]
  have lv1 := hvd v1 (List.mem_of_getElem? f1)
  have lv0 := hvd v0 (List.mem_of_getElem? f0)
  have x1 : viaddr 1 (.ref 1 0 0 (n + 2) (n + 2 + 1)) (VI ((n + 1 : Nat) : Int)) [.row 0 (outA.map uV) 1 true, .row 0 (outB.map uV) 1 true] = some (.ptr 1 0 (n + 1) 0) := by rw [viaddr_row (by rfl) (by omega), Nat.zero_add]
  have x0 : viaddr 1 (.ref 1 0 0 (n + 2) (n + 2 + 1)) (VI ((n : Nat) : Int)) [.row 0 (outA.map uV) 1 true, .row 0 (outB.map uV) 1 true] = some (.ptr 1 0 n 0) := by rw [viaddr_row (by rfl) (by omega), Nat.zero_add]
  have y1 : vload false 1 (.ptr 1 0 (n + 1) 0) [.row 0 (outA.map uV) 1 true, .row 0 (outB.map uV) 1 true] = some (uV v1) := vload_nat (rows := outB) (g := 0) (w := true) (by rfl) b1
  have y0 : vload false 1 (.ptr 1 0 n 0) [.row 0 (outA.map uV) 1 true, .row 0 (outB.map uV) 1 true] = some (uV v0) := vload_nat (rows := outB) (g := 0) (w := true) (by rfl) b0
  have z0 : vlen (.ref 1 0 0 (n + 2) (n + 2 + 1)) [.row 0 (outA.map uV) 1 true, .row 0 (outB.map uV) 1 true] = some (VI ((n + 2 : Nat) : Int)) := vlen_ref (r := (outB.map uV, 1, true)) (by rfl)
  have z1 : vlen (.ref 0 0 0 ((digs 4294967296 a).length + 1) ((digs 4294967296 a).length + 1)) [.row 0 (outA.map uV) 1 true, .row 0 (outB.map uV) 1 true] = some (VI (((digs 4294967296 a).length + 1 : Nat) : Int)) := vlen_ref (r := (outA.map uV, 1, true)) (by rfl)
  have w2 : IntKind.i64.wrap (((n + 2 : Nat) : Int) - 2) = ((n : Nat) : Int) := wrapN _ (by omega) (by omega)
  have wv1 : IntKind.u64.wrap (v1 : Int) = (v1 : Int) := wrapU _ (by omega)
  have wv0 : IntKind.u64.wrap (v0 : Int) = (v0 : Int) := wrapU _ (by omega)
  obtain ⟨m, hm⟩ : ∃ m, m + (n + 2) = (digs 4294967296 a).length + 1 := ⟨(digs 4294967296 a).length + 1 - (n + 2), by omega⟩
  have wm : IntKind.i64.wrap ((((digs 4294967296 a).length + 1 : Nat) : Int) - ((n + 2 : Nat) : Int)) = (m : Int) := wrapN _ (by omega) (by omega)
  have wm1 : IntKind.i64.wrap ((m : Int) - 1) = (m : Int) - 1 := wrap64 (by omega) (by omega)
  have mk := mk_rowD m 0 (by omega) (H := [.row 0 (outA.map uV) 1 true, .row 0 (outB.map uV) 1 true])
  have z2 : vlen (.ref 2 0 0 m m) (H3 outA outB (List.replicate m 0)) = some (VI m) := vlen_ref (r := ((List.replicate m 0).map uV, 1, true)) (by rfl)
  simp only [w0, x1, x0, y1, y0, z0, z1, w2, wv1, wv0, wm, mk, z2, wm1, List.length_cons, List.length_nil, VX, Nat.reduceEqDiff, Nat.reduceAdd]
  have hless : val 4294967296 (outA.drop m) < val 4294967296 vs := by
    obtain ⟨d, hd⟩ : ∃ d, outA[(digs 4294967296 a).length]? = some d := ⟨_, List.getElem?_eq_getElem (by omega)⟩
    have h2 := (val_top (b := 4294967296) (xs := outA.drop m) (n := n + 1) (t := d) (fun x hx => hAd x (List.mem_of_mem_drop hx)) (by rw [List.length_drop]; omega) (by rw [List.getElem?_drop, show m + (n + 1) = (digs 4294967296 a).length by omega]; exact hd)).2
    have h3 := hAt d hd
    have h4 := (val_top (n := n + 1) (digs_lt (b := 4294967296) (by decide) b) hn ht).1
    rw [val_digs (by decide)] at h4
    have h5 : (d + 1) * 4294967296 ^ (n + 1) ≤ 2 ^ s * 4294967296 ^ (n + 1) := Nat.mul_le_mul_right _ h3
    have h6 : 1 * 4294967296 ^ (n + 1) ≤ t * 4294967296 ^ (n + 1) := Nat.mul_le_mul_right _ (by omega)
    have h7 : 1 * 4294967296 ^ (n + 1) * 2 ^ s ≤ b * 2 ^ s := Nat.mul_le_mul_right _ (by omega)
    rw [hvv]
    rw [Nat.one_mul, Nat.mul_comm] at h7
    omega
  refine div_loop (us0 := outA) (ws := outB) (os0 := List.replicate m 0) (vs := vs) (N := (digs 4294967296 a).length + 1) (m := m) (n := n) (A := a * 2 ^ s) (s := s) hAl hm (by omega) hAd he hBl hVl hvd f1 f0 hv1 hAv hless (by simp) (rep_lt (by decide) _) (by rfl) (by rfl) (by rfl) (by rfl) (by rfl) (by rfl) (by rfl) ?_
  intro ρ1 us os r8 r9 r13 hul hud hol hod hv hlt
  rw [hvv] at hv hlt
  have hq : val 4294967296 os = a / b := by
    rw [← Nat.mul_div_mul_right a b hS, ← hv, Nat.add_mul_div_left _ _ (by omega), Nat.div_eq_of_lt hlt, Nat.zero_add]
  have hr : val 4294967296 us = a % b * 2 ^ s := by
    rw [← Nat.mul_mod_mul_right, ← hv, Nat.add_mul_mod_self_left, Nat.mod_eq_of_lt hlt]
  simp only [r9, VX, Nat.reduceEqDiff, Nat.reduceAdd]
  refine trim_call (rows := us) (m := a % b * 2 ^ s) H3_0 (by omega) (Nat.le_refl _) (by omega) (fun d hd => hud d (List.mem_of_mem_take hd)) (by rw [List.take_of_length_le (by omega)]; exact hr) fun k hk he2 => ?_
  have z3 : vlen (.ref 0 0 0 k ((digs 4294967296 a).length + 1)) (H3 us outB os) = some (VI k) := vlen_ref H3_0
  simp only [z3, VX, Nat.reduceEqDiff, Nat.reduceAdd]
  refine down_loop (us := us) (k := k) (N := (digs 4294967296 a).length + 1) (s := s) (w0 := 2 ^ (32 - s)) hs hSW hul hk (by omega) hud r8 (by rfl) (by rfl) (by rfl) ?_
  intro ρ2 us' q9 q13 hul' hud' hv'
  have q13' : ρ2 13 = .ref 2 0 0 m m := q13.trans r13
  have hrest : val 4294967296 (us'.take k) = a % b := by
    rw [hv', he2, val_digs (by decide), Nat.mul_div_cancel _ hS]
  simp only [q9, q13', VX, Nat.reduceEqDiff, Nat.reduceAdd]
  refine trim_call (rows := os) (m := a / b) H3_2 (by omega) (Nat.le_refl _) (by omega) (fun d hd => hod d (List.mem_of_mem_take hd)) (by rw [List.take_of_length_le (by omega)]; exact hq) fun k2 hk2 he3 => ?_
  simp only [q9, VX, Nat.reduceEqDiff, Nat.reduceAdd]
  refine trim_call (rows := us') (m := a % b) H3_0 (by omega) hk (by omega) (fun d hd => hud' d (List.mem_of_mem_take hd)) hrest fun k3 hk3 he4 => ?_
  simp only [VX, Nat.reduceEqDiff, Nat.reduceAdd]
  exact fz_tup2 (d := 6) (fz_natD (d := 5) H3_2 (by omega) hk2 he3) (fz_natD (d := 5) H3_0 (by omega) (by omega) he4)
end Go.PM
/- The program's numbers of at least 0: the greatest common divisor; the numeral in decimal. -/
namespace Go.PM
theorem len_natV (n : Nat) {H : VHeap} : vlen (natV n) H = some (VI (digs 4294967296 n).length) := vlen_map
theorem len_pos {n : Nat} : (0 : Int) < ((digs 4294967296 n).length : Int) ↔ n ≠ 0 := by
  constructor
  · intro h h0
    subst h0
    rw [digs_zero] at h
    simp at h
  · intro h
    have := (digs_nil (b := 4294967296) (by decide) (n := n))
    have h2 : digs 4294967296 n ≠ [] := fun hx => h (this.1 hx)
    have := List.length_pos_iff.2 h2
    omega
theorem small_lt {n : Nat} (h : (digs 4294967296 n).length ≤ 2) : n < 18446744073709551616 := by
  have h1 := digs_len_lt (b := 4294967296) (by decide) n
  have h2 : 4294967296 ^ (digs 4294967296 n).length ≤ 4294967296 ^ 2 := Nat.pow_le_pow_right (by decide) h
  omega
theorem impl_nat_gcd_v (a b : Nat) (ha : (digs 4294967296 a).length ≤ 17592186044416) (hb : (digs 4294967296 b).length ≤ 17592186044416) : TC 131 [natV a, natV b] (natV (Nat.gcd a b)) := by
  refine TC.walk ⟨true, false⟩ _impl_nat__gcd_t rfl (Nat.le_of_ble_eq_true rfl) (by simp [pureL, natV_pure]) (natV_res _) ?_
  simp only [_impl_nat__gcd, _impl_nat__gcd_c, VX, Nat.reduceEqDiff, Nat.reduceAdd]
  refine VW_loop (fun (t : Nat × Nat) ρ H => H = [] ∧ Nat.gcd t.1 t.2 = Nat.gcd a b ∧ (digs 4294967296 t.1).length ≤ 17592186044416 ∧ (digs 4294967296 t.2).length ≤ 17592186044416 ∧ ρ 0 = natV t.1 ∧ ρ 1 = natV t.2) (fun t => t.2) (a, b) ⟨rfl, rfl, ha, hb, rfl, rfl⟩ ?_
  rintro ⟨x, y⟩ ρ H ⟨rfl, hg, hx, hy, g0, g1⟩
  simp only at hg hx hy g0 g1
  have c1 := impl_nat_small_v x hx
  have c2 := impl_nat_small_v y hy
  by_cases hy0 : y = 0
  · subst hy0
    have hl : ¬ (0 : Int) < ((digs 4294967296 0).length : Int) := by rw [len_pos]; omega
    rw [Nat.gcd_zero_right] at hg
    simp only [_impl_nat__gcd_b1, g0, g1, len_natV, hl, VX, Nat.reduceEqDiff, Nat.reduceAdd]
    rw [hg]
    exact fz_res (natV_pure _)
  have hl : (0 : Int) < ((digs 4294967296 y).length : Int) := len_pos.2 hy0
  by_cases h1 : (digs 4294967296 x).length ≤ 2 ∧ (digs 4294967296 y).length ≤ 2
  · rw [if_pos h1.1] at c1
    rw [if_pos h1.2] at c2
    simp only [_impl_nat__gcd_b1, g0, g1, len_natV, hl, c1, c2, VX, Nat.reduceEqDiff, Nat.reduceAdd]
    refine VW_loop (fun (t : Nat × Nat) ρ H => H = [] ∧ Nat.gcd t.1 t.2 = Nat.gcd a b ∧ t.1 < 18446744073709551616 ∧ t.2 < 18446744073709551616 ∧ ρ 5 = VK .u64 t.1 ∧ ρ 7 = VK .u64 t.2) (fun t => t.2) (x, y) ⟨rfl, hg, small_lt h1.1, small_lt h1.2, rfl, rfl⟩ ?_
    rintro ⟨u, v⟩ ρ2 H ⟨rfl, hg2, hu, hv, k5, k7⟩
    simp only at hg2 hu hv k5 k7
    by_cases hv0 : v = 0
    · subst hv0
      rw [Nat.gcd_zero_right] at hg2
      have hz : ¬ (0 : Int) < ((0 : Nat) : Int) := by omega
      have c3 := impl_natOf_v u hu
      simp only [_impl_nat__gcd_b0, k5, k7, hz, c3, VX, Nat.reduceEqDiff, Nat.reduceAdd]
      rw [hg2]
      exact fz_res (natV_pure _)
    · have hz : (0 : Int) < (v : Int) := by omega
      have r1 := rem_u64 u v (by omega)
      simp only [_impl_nat__gcd_b0, k5, k7, hz, r1, VX, Nat.reduceEqDiff, Nat.reduceAdd]
      refine ⟨(v, u % v), ?_, ?_, hv, ?_, rfl, rfl⟩
      · exact Nat.mod_lt _ (by omega)
      · simp only
        rw [← hg2, Nat.gcd_comm u v, Nat.gcd_rec v u, Nat.gcd_comm]
      · simp only
        have := Nat.mod_lt u (show 0 < v by omega)
        omega
  · have c3 := impl_nat_div_v x y hy0 hx hy
    have next : ∃ s' : Nat × Nat, s'.2 < y ∧ Nat.gcd s'.1 s'.2 = Nat.gcd a b ∧ (digs 4294967296 s'.1).length ≤ 17592186044416 ∧ (digs 4294967296 s'.2).length ≤ 17592186044416 ∧ natV y = natV s'.1 ∧ natV (x % y) = natV s'.2 := by
      have hm := Nat.mod_lt x (show 0 < y by omega)
      refine ⟨(y, x % y), hm, ?_, hy, ?_, rfl, rfl⟩
      · simp only
        rw [← hg, Nat.gcd_comm x y, Nat.gcd_rec y x, Nat.gcd_comm]
      · simp only
        have := digs_len_mono (b := 4294967296) (by decide) (Nat.le_of_lt hm)
        omega
    by_cases h2 : (digs 4294967296 x).length ≤ 2
    · have h3 : ¬ (digs 4294967296 y).length ≤ 2 := fun h => h1 ⟨h2, h⟩
      rw [if_pos h2] at c1
      rw [if_neg h3] at c2
      simp only [_impl_nat__gcd_b1, g0, g1, len_natV, hl, c1, c2, c3, VX, Nat.reduceEqDiff, Nat.reduceAdd]
      exact next
    · rw [if_neg h2] at c1
      by_cases h3 : (digs 4294967296 y).length ≤ 2
      · rw [if_pos h3] at c2
        simp only [_impl_nat__gcd_b1, g0, g1, len_natV, hl, c1, c2, c3, VX, Nat.reduceEqDiff, Nat.reduceAdd]
        exact next
      · rw [if_neg h3] at c2
        simp only [_impl_nat__gcd_b1, g0, g1, len_natV, hl, c1, c2, c3, VX, Nat.reduceEqDiff, Nat.reduceAdd]
        exact next
end Go.PM
/- The program's numbers of at least 0: the numeral in decimal. -/
namespace Go.PM
open Go.Lib
theorem str_add (a b : List UInt8) (h : a.length + b.length ≤ 9223372036854775807) : pbin .add (.string ⟨a.toArray⟩) (.string ⟨b.toArray⟩) = some (.string ⟨(a ++ b).toArray⟩) := by
  have h1 : (⟨a.toArray⟩ : ByteArray).size = a.length := by simp [ByteArray.size]
  have h2 : (⟨b.toArray⟩ : ByteArray).size = b.length := by simp [ByteArray.size]
  have h3 : ¬ (((⟨a.toArray⟩ : ByteArray).size + (⟨b.toArray⟩ : ByteArray).size : Nat) : Int) > IntKind.i64.max := by
    rw [h1, h2]
    show ¬ _ > (9223372036854775807 : Int)
    omega
  simp only [pbin, h3, if_false]
  congr 2
theorem slen_str (a : List UInt8) : slenV (.string ⟨a.toArray⟩) = some (.int .i64 (a.length : Int)) := by simp [slenV, ByteArray.size]
theorem str_len : ∀ a : List UInt8, (vcells (strV a)).length = 1 := fun _ => rfl
theorem reverse_v {xs : List (List UInt8)} {H : VHeap} {lo b g n : Nat} (hr : vrow H b g = some (xs.map strV, 1, true)) (hn : xs.length = n) (hlo : lo ≤ b) (hcap : n ≤ 9223372036854775806) :
    VRaw 164 [.ref b g 0 n n] lo H fun r H' => r = .tup [] ∧ H' = H.set b (.row g (xs.reverse.map strV) 1 true) := by
  refine VRaw.walk ⟨true, false⟩ slices_Reverse___string_string__t (Nat.le_of_ble_eq_true rfl) ?_
  have e0 : vlen (.ref b g 0 n n) H = some (VI n) := vlen_ref hr
  have w0 : IntKind.i64.wrap ((n : Int) - 1) = (n : Int) - 1 := wrap64 (by omega) (by omega)
  simp only [slices_Reverse___string_string_, slices_Reverse___string_string__c, e0, w0, VX, Nat.reduceEqDiff, Nat.reduceAdd]
  refine VW_loop (fun (t : Nat × List (List UInt8)) ρ K => t.1 ≤ n ∧ K = H.set b (.row g (t.2.map strV) 1 true) ∧ t.2.length = n ∧ (∀ k, k < n → t.2[k]? = if k < t.1 ∨ n ≤ k + t.1 then xs[n - 1 - k]? else xs[k]?) ∧ ρ 0 = .ref b g 0 n n ∧ ρ 2 = VI t.1 ∧ ρ 3 = VI ((n : Int) - 1 - (t.1 : Int))) (fun t => n - t.1) (0, xs) ⟨Nat.zero_le _, (set_same_row hr).symm, hn, fun k hk => by rw [if_neg (by simp only; omega)], rfl, rfl, by show VI ((n : Int) - 1) = VI ((n : Int) - 1 - ((0 : Nat) : Int)); rw [Int.natCast_zero, Int.sub_zero]⟩ ?_
  rintro ⟨i, ys⟩ ρ K ⟨hi, rfl, hl, hy, g0, g2, g3⟩
  simp only at hi hl hy g2 g3
  have hr2 : vrow (H.set b (.row g (ys.map strV) 1 true)) b g = some (ys.map strV, 1, true) := vrow_set_self hr
  by_cases hin : (i : Int) < (n : Int) - 1 - (i : Int)
  · have hj : (n : Int) - 1 - (i : Int) = ((n - 1 - i : Nat) : Int) := by omega
    obtain ⟨x, hx⟩ : ∃ x, ys[i]? = some x := ⟨_, List.getElem?_eq_getElem (by omega)⟩
    obtain ⟨y, hyy⟩ : ∃ y, ys[n - 1 - i]? = some y := ⟨_, List.getElem?_eq_getElem (by omega)⟩
    rw [hj] at g3 hin
    have a1 : ∀ (zs : List (List UInt8)) (k : Nat), zs.length = n → k < n → viaddr 1 (.ref b g 0 n n) (VI (k : Int)) (H.set b (.row g (zs.map strV) 1 true)) = some (.ptr b g k 0) := fun zs k h1 h2 => by rw [viaddr_row (vrow_set_self hr) h2, Nat.zero_add]
    have l1 : vload false 1 (.ptr b g (n - 1 - i) 0) (H.set b (.row g (ys.map strV) 1 true)) = some (strV y) := vload_row hr2 hyy
    have l2 : vload false 1 (.ptr b g i 0) (H.set b (.row g (ys.map strV) 1 true)) = some (strV x) := vload_row hr2 hx
    have s1 : vstore lo 1 (.ptr b g i 0) (strV y) (H.set b (.row g (ys.map strV) 1 true)) = some (H.set b (.row g ((ys.set i y).map strV) 1 true)) := by rw [vstore_map (f := strV) (e := 1) hr2 (by omega) hlo rfl rfl, set_set_row]
    have s2 : vstore lo 1 (.ptr b g (n - 1 - i) 0) (strV x) (H.set b (.row g ((ys.set i y).map strV) 1 true)) = some (H.set b (.row g (((ys.set i y).set (n - 1 - i) x).map strV) 1 true)) := by rw [vstore_map (f := strV) (e := 1) (vrow_set_self hr) (by rw [List.length_set]; omega) hlo rfl rfl, set_set_row]
    have w1 : IntKind.i64.wrap ((i : Int) + 1) = ((i + 1 : Nat) : Int) := wrapN _ (by omega) (by omega)
    have w2 : IntKind.i64.wrap (((n - 1 - i : Nat) : Int) - 1) = (n : Int) - 1 - ((i + 1 : Nat) : Int) := by rw [wrap64 (by omega) (by omega)]; omega
    have b1 := a1 ys i hl (by omega)
    have b2 := a1 ys (n - 1 - i) hl (by omega)
    have b3 := a1 (ys.set i y) (n - 1 - i) (by rw [List.length_set]; exact hl) (by omega)
    simp only [slices_Reverse___string_string__b0, g0, g2, g3, hin, b1, b2, b3, l1, l2, s1, s2, w1, w2, VX, Nat.reduceEqDiff, Nat.reduceAdd]
    refine ⟨(i + 1, (ys.set i y).set (n - 1 - i) x), by simp only; omega, by simp only; omega, rfl, by simp only [List.length_set]; exact hl, fun k hk => ?_, by (repeat' apply And.intro) <;> first | rfl | trivial⟩
    simp only
    have hxx := hy i (by omega)
    rw [if_neg (by omega), hx] at hxx
    have hyx := hy (n - 1 - i) (by omega)
    rw [if_neg (by omega), hyy] at hyx
    rw [List.getElem?_set, List.getElem?_set, List.length_set]
    by_cases h1 : n - 1 - i = k
    · subst h1
      rw [if_pos rfl, if_pos (by omega), if_pos (by omega), show n - 1 - (n - 1 - i) = i by omega]
      exact hxx
    · rw [if_neg h1]
      by_cases h2 : i = k
      · subst h2
        rw [if_pos rfl, if_pos (by omega), if_pos (by omega)]
        exact hyx
      · rw [if_neg h2, hy k hk]
        by_cases h3 : k < i ∨ n ≤ k + i
        · rw [if_pos h3, if_pos (by omega)]
        · rw [if_neg h3, if_neg (by omega)]
  · have hrev : ys = xs.reverse := by
      apply List.ext_getElem?
      intro k
      rcases Nat.lt_or_ge k n with h | h
      · rw [hy k h, List.getElem?_reverse (by omega), hn]
        split
        · rfl
        · rw [show n - 1 - k = k by omega]
      · rw [List.getElem?_eq_none (by omega), List.getElem?_eq_none (by rw [List.length_reverse]; omega)]
    subst hrev
    simp only [slices_Reverse___string_string__b0, g0, g2, g3, hin, VX, Nat.reduceEqDiff, Nat.reduceAdd]
    try exact ⟨rfl, rfl⟩
theorem digsT_len (n : Nat) : (digs 1000000000 n).length ≤ 2 * (digs 4294967296 n).length := by
  refine digs_len_le (by decide) ?_
  have h1 := digs_len_lt (b := 4294967296) (by decide) n
  have h2 : 4294967296 ^ (digs 4294967296 n).length ≤ (1000000000 ^ 2) ^ (digs 4294967296 n).length := Nat.pow_le_pow_left (by decide) _
  rw [← Nat.pow_mul] at h2
  omega
theorem dec_len {n : Nat} (hn : n ≠ 0) : (decDigits n).length ≤ 9 * (digs 1000000000 n).length := by
  have h1 := digs_len_lt (b := 1000000000) (by decide) n
  have h3 : (digs 1000000000 n) ≠ [] := fun h => hn ((digs_nil (by decide)).1 h)
  have h4 := List.length_pos_iff.2 h3
  generalize (digs 1000000000 n).length = L at *
  obtain ⟨k, hk⟩ : ∃ k, 9 * L = k + 1 := ⟨9 * L - 1, by omega⟩
  have h5 : (1000000000 : Nat) ^ L = 10 ^ (9 * L) := by rw [show (1000000000 : Nat) = 10 ^ 9 by decide, ← Nat.pow_mul]
  rw [h5, hk] at h1
  rw [hk]
  exact dec_len_le n k h1
def head10 (q : Nat) : List UInt8 := if q = 0 then [] else decDigits q
theorem impl_nat_text_v (n : Nat) (hn : (digs 4294967296 n).length ≤ 68719476736) : TC 143 [natV n] (strV (decDigits n)) := by
  refine TC.walk ⟨true, false⟩ _impl_nat__text_t rfl (Nat.le_of_ble_eq_true rfl) (by simp [pureL, natV_pure]) rfl ?_
  by_cases h0 : n = 0
  · subst h0
    have hl : (((digs 4294967296 0).length : Nat) : Int) = 0 := by rw [digs_zero]; rfl
    simp only [_impl_nat__text, _impl_nat__text_c, len_natV, hl, VX, Nat.reduceEqDiff, Nat.reduceAdd]
    rw [dec_small (by decide)]
    exact fz_res rfl
  have hl : ¬ (((digs 4294967296 n).length : Nat) : Int) = 0 := by have := len_pos.2 h0; omega
  have e1 : ∀ lr, vlit lr [.string ⟨#[]⟩] 0 [] [] = some (.ref 0 0 0 0 0, [.row 0 (([] : List (List UInt8)).map strV) 1 true]) := fun lr => vlit_nil (H := []) (lr := lr) (z := [.string ⟨#[]⟩]) rfl
  have hTn := digsT_len n
  have hdl := dec_len h0
  simp only [_impl_nat__text, _impl_nat__text_c, len_natV, hl, e1, VX, Nat.reduceEqDiff, Nat.reduceAdd]
  refine VW_loop (fun (t : Nat × List (List UInt8)) ρ H => H = [.row t.2.length (t.2.map strV) 1 true] ∧ t.1 ≤ n ∧ t.2.length + (digs 1000000000 t.1).length = (digs 1000000000 n).length ∧ decDigits n = head10 t.1 ++ t.2.reverse.flatten ∧ ρ 0 = natV t.1 ∧ ρ 3 = .ref 0 t.2.length 0 t.2.length t.2.length) (fun t => t.1) (n, []) ⟨rfl, Nat.le_refl _, by simp, by simp [head10, h0], rfl, rfl⟩ ?_
  rintro ⟨q, ps⟩ ρ H ⟨rfl, hq, hlen, htxt, g0, g3⟩
  simp only at hq hlen htxt g0 g3
  by_cases hq0 : q = 0
  · subst hq0
    have hz : ¬ (0 : Int) < ((digs 4294967296 0).length : Int) := by rw [len_pos]; omega
    rw [head10, if_pos rfl, List.nil_append] at htxt
    have hr : vrow [.row ps.length (ps.map strV) 1 true] 0 ps.length = some (ps.map strV, 1, true) := vrow_zero
    simp only [_impl_nat__text_b0, g0, g3, len_natV, hz, VX, Nat.reduceEqDiff, Nat.reduceAdd]
    refine vcall_raw rfl ((reverse_v hr rfl (Nat.le_refl _) (by omega)).mono ?_)
    rintro r H' ⟨rfl, rfl⟩
    have hset : ([.row ps.length (ps.map strV) 1 true] : VHeap).set 0 (.row ps.length (ps.reverse.map strV) 1 true) = [.row ps.length (ps.reverse.map strV) 1 true] := rfl
    have hr2 : vrow [.row ps.length (ps.reverse.map strV) 1 true] 0 ps.length = some (ps.reverse.map strV, 1, true) := vrow_zero
    have hfl : ps.reverse.flatten.length ≤ 140737488355328 := by rw [← htxt]; omega
    have cj := (join_v ps.reverse (by rw [List.length_reverse]; omega) hfl).flat (H := [.row ps.length (ps.reverse.map strV) 1 true]) (args := [.ref 0 ps.length 0 ps.length ps.length, strV []]) rfl (by simp only [pureL, pure_list (f := strV) str_len (fun _ => rfl), Bool.and_true]; rfl) (fz2 (fz_row hr2 (by simp) (Nat.le_refl _) (pure_map fun _ => rfl)) (fz_res rfl)) rfl
    simp only [hset, g3, cj, VX, Nat.reduceEqDiff, Nat.reduceAdd]
    rw [← htxt]
    exact fz_res rfl
  · have hz : (0 : Int) < ((digs 4294967296 q).length : Int) := len_pos.2 hq0
    have hql := digs_len_mono (b := 4294967296) (by decide) hq
    have c1 : TC 158 [natV q, .sc (.int .u32 1000000000)] (.tup [natV (q / 1000000000), uV (q % 1000000000)]) := impl_nat_divSmall_v q 1000000000 (by decide) (by decide) (by omega)
    have hm := Nat.mod_lt q (show 0 < 1000000000 by decide)
    have c2 := fmtu_v (q % 1000000000) (by omega)
    have wm : IntKind.u64.wrap ((q % 1000000000 : Nat) : Int) = ((q % 1000000000 : Nat) : Int) := wrapU _ (by omega)
    have hdq := digs_pos (b := 1000000000) (by decide) hq0
    have hdl2 : (digs 1000000000 q).length = (digs 1000000000 (q / 1000000000)).length + 1 := by rw [hdq]; rfl
    have hdr := dec_len_le (q % 1000000000) 8 hm
    have hqq := Nat.mod_add_div q 1000000000
    have e2 : ∀ x : List UInt8, vlit false [.string ⟨#[]⟩] 1 [(0, strV x)] [.row ps.length (ps.map strV) 1 true] = some (.tree [strV x] (.cl 1), [.row ps.length (ps.map strV) 1 true]) := fun x => vlit_one (z := [.string ⟨#[]⟩]) rfl rfl rfl
    have e3 : ∀ x : List UInt8, vsource 1 (.tree [strV x] (.cl 1)) [.row ps.length (ps.map strV) 1 true] = some [strV x] := fun x => vsource_one rfl rfl
    have e4 : ∀ x : List UInt8, vappend 0 1 16 (.ref 0 ps.length 0 ps.length ps.length) [strV x] [.row ps.length (ps.map strV) 1 true] = some (.ref 0 (ps.length + 1) 0 (ps.length + 1) (ps.length + 1), [.row (ps.length + 1) ((ps ++ [x]).map strV) 1 true]) := fun x => by
      rw [vappend_row (f := strV) (x := x) vrow_zero rfl (Nat.le_refl _) (by decide) (by decide) (by omega)]
      rfl
    have hle : q / 1000000000 < q := Nat.div_lt_self (by omega) (by decide)
    by_cases hqz : q / 1000000000 = 0
    · have hz2 : ¬ (0 : Int) < ((digs 4294967296 (q / 1000000000)).length : Int) := by rw [len_pos]; omega
      simp only [_impl_nat__text_b0, g0, g3, len_natV, hz, c1, c2, wm, hz2, e2, e3, e4, VX, Nat.reduceEqDiff, Nat.reduceAdd]
      refine ⟨(q / 1000000000, ps ++ [decDigits (q % 1000000000)]), hle, by simp, by simp only; omega, by simp only [List.length_append, List.length_singleton]; omega, ?_, rfl, by simp⟩
      rw [htxt, head10, if_neg hq0, head10, if_pos hqz, List.reverse_append, List.nil_append, List.reverse_singleton, List.singleton_append, List.flatten_cons, show q % 1000000000 = q by omega]
    · have hz2 : (0 : Int) < ((digs 4294967296 (q / 1000000000)).length : Int) := len_pos.2 hqz
      have ws : IntKind.i64.wrap ((9 : Int) - ((decDigits (q % 1000000000)).length : Int)) = ((9 - (decDigits (q % 1000000000)).length : Nat) : Int) := wrapN _ (by omega) (by omega)
      have c3 := repeat_v [48] (9 - (decDigits (q % 1000000000)).length) (by simp; omega) (by omega)
      have hrep : repeatL [48] (9 - (decDigits (q % 1000000000)).length) ++ decDigits (q % 1000000000) = padD 9 (q % 1000000000) := by
        rw [pad_eq 8 _ hm]
        congr 1
        have := repeatL_replicate 48 1 (9 - (decDigits (q % 1000000000)).length)
        rw [Nat.mul_one] at this
        exact this
      have c4 := str_add (repeatL [48] (9 - (decDigits (q % 1000000000)).length)) (decDigits (q % 1000000000)) (by rw [← List.length_append, hrep, pad_len]; decide)
      rw [hrep] at c4
      simp only [_impl_nat__text_b0, g0, g3, len_natV, hz, c1, c2, wm, hz2, slen_str, ws, c3, c4, e2, e3, e4, VX, Nat.reduceEqDiff, Nat.reduceAdd]
      refine ⟨(q / 1000000000, ps ++ [padD 9 (q % 1000000000)]), hle, by simp, by simp only; omega, by simp only [List.length_append, List.length_singleton]; omega, ?_, rfl, by simp⟩
      rw [htxt, head10, if_neg hq0, head10, if_neg hqz, List.reverse_append, List.reverse_singleton, List.singleton_append, List.flatten_cons, ← List.append_assoc, ← dec_chunk (by omega) hm]
      congr 2
      omega
end Go.PM
/- Fractions: plain laws of their parts, and of how many bits these have. -/
namespace Go.PM
def bl (n : Nat) : Nat := (digs 2 n).length
theorem bl_lt (n : Nat) : n < 2 ^ bl n := digs_len_lt (by decide) n
theorem bl_le {n k : Nat} (h : n < 2 ^ k) : bl n ≤ k := digs_len_le (by decide) h
theorem bl_mono {m n : Nat} (h : m ≤ n) : bl m ≤ bl n := digs_len_mono (by decide) h
theorem bl_mul (m n : Nat) : bl (m * n) ≤ bl m + bl n := by
  refine bl_le ?_
  rw [Nat.pow_add]
  exact Nat.mul_lt_mul'' (bl_lt m) (bl_lt n)
theorem lt_pow_of_bl {n k : Nat} (h : bl n ≤ k) : n < 2 ^ k := Nat.lt_of_lt_of_le (bl_lt n) (Nat.pow_le_pow_right (by decide) h)
theorem bl_add {m n k : Nat} (hm : bl m ≤ k) (hn : bl n ≤ k) : bl (m + n) ≤ k + 1 := by
  refine bl_le ?_
  have h1 := lt_pow_of_bl hm
  have h2 := lt_pow_of_bl hn
  rw [Nat.pow_succ]
  omega
theorem bl_zero : bl 0 = 0 := by simp [bl, digs_zero]
theorem bl_one : bl 1 = 1 := by simp [bl, digs_pos (b := 2) (by decide) (n := 1) (by decide), digs_zero]
theorem bl_pos {n : Nat} (h : n ≠ 0) : 1 ≤ bl n := by
  have := bl_mono (m := 1) (n := n) (by omega)
  rwa [bl_one] at this
theorem len_W (n : Nat) : 32 * (digs 4294967296 n).length ≤ bl n + 31 := by
  by_cases h : n = 0
  · subst h; rw [digs_zero]; simp
  · have h1 := digs_ge (b := 4294967296) (by decide) h
    have h2 := bl_lt n
    have e : (4294967296 : Nat) = 2 ^ 32 := by decide
    rw [e] at h1 ⊢
    rw [← Nat.pow_mul] at h1
    have h3 : 2 ^ (32 * ((digs (2 ^ 32) n).length - 1)) < 2 ^ bl n := by omega
    have h4 := (Nat.pow_lt_pow_iff_right (by decide)).1 h3
    omega
theorem len_T (n : Nat) : 29 * (digs 1000000000 n).length ≤ bl n + 28 := by
  by_cases h : n = 0
  · subst h; rw [digs_zero]; simp
  · have h1 := digs_ge (b := 1000000000) (by decide) h
    have h2 := bl_lt n
    have h5 : (2 ^ 29) ^ ((digs 1000000000 n).length - 1) ≤ 1000000000 ^ ((digs 1000000000 n).length - 1) := Nat.pow_le_pow_left (by decide) _
    rw [← Nat.pow_mul] at h5
    have h3 : 2 ^ (29 * ((digs 1000000000 n).length - 1)) < 2 ^ bl n := by omega
    have h4 := (Nat.pow_lt_pow_iff_right (by decide)).1 h3
    omega
def rbits (q : Rat) : Nat := max (bl q.num.natAbs) (bl q.den)
theorem rbits_num {q : Rat} : bl q.num.natAbs ≤ rbits q := Nat.le_max_left _ _
theorem rbits_den {q : Rat} : bl q.den ≤ rbits q := Nat.le_max_right _ _
theorem rbits_pos {q : Rat} : 1 ≤ rbits q := Nat.le_trans (bl_pos q.den_nz) rbits_den
theorem rbits_of {q : Rat} {k : Nat} (h1 : bl q.num.natAbs ≤ k) (h2 : bl q.den ≤ k) : rbits q ≤ k := Nat.max_le.2 ⟨h1, h2⟩
theorem rbits_mk {n : Int} {d k : Nat} (h1 : bl n.natAbs ≤ k) (h2 : bl d ≤ k) (hk : 1 ≤ k) : rbits (mkRat n d) ≤ k := by
  refine rbits_of ?_ ?_
  · rw [Rat.num_mkRat]
    split
    · rw [Int.natAbs_zero, bl_zero]; omega
    · exact Nat.le_trans (bl_mono (Int.natAbs_ediv_le_natAbs _ _)) h1
  · rw [Rat.den_mkRat]
    split
    · rw [bl_one]; exact hk
    · exact Nat.le_trans (bl_mono (Nat.div_le_self _ _)) h2
theorem rbits_add (a b : Rat) : rbits (a + b) ≤ rbits a + rbits b + 1 := by
  rw [Rat.add_def']
  have h1 := @rbits_num a
  have h2 := @rbits_num b
  have h3 := @rbits_den a
  have h4 := @rbits_den b
  have h5 := bl_mul a.num.natAbs b.den
  have h6 := bl_mul b.num.natAbs a.den
  have h7 := bl_mul a.den b.den
  refine rbits_mk ?_ (by omega) (by omega)
  have h8 : (a.num * b.den + b.num * a.den).natAbs ≤ a.num.natAbs * b.den + b.num.natAbs * a.den := by
    refine Nat.le_trans (Int.natAbs_add_le _ _) ?_
    rw [Int.natAbs_mul, Int.natAbs_mul, Int.natAbs_natCast, Int.natAbs_natCast]
    exact Nat.le_refl _
  exact Nat.le_trans (bl_mono h8) (bl_add (by omega) (by omega))
theorem rbits_mul (a b : Rat) : rbits (a * b) ≤ rbits a + rbits b := by
  rw [Rat.mul_def']
  have h1 := @rbits_num a
  have h2 := @rbits_num b
  have h3 := @rbits_den a
  have h4 := @rbits_den b
  have h5 := bl_mul a.num.natAbs b.num.natAbs
  have h7 := bl_mul a.den b.den
  have h8 := @rbits_pos a
  refine rbits_mk ?_ (by omega) (by omega)
  rw [Int.natAbs_mul]
  omega
theorem rbits_neg (a : Rat) : rbits (-a) = rbits a := by simp [rbits]
theorem rbits_sub (a b : Rat) : rbits (a - b) ≤ rbits a + rbits b + 1 := by
  rw [Rat.sub_eq_add_neg]
  have := rbits_add a (-b)
  rwa [rbits_neg] at this
theorem rbits_inv (a : Rat) : rbits a⁻¹ ≤ rbits a := by
  have h1 := @rbits_num a
  have h2 := @rbits_den a
  refine rbits_of ?_ ?_
  · rw [Rat.num_inv, Int.natAbs_mul, Int.natAbs_natCast]
    refine Nat.le_trans (bl_mono ?_) h2
    have h3 : a.num.sign.natAbs ≤ 1 := by
      rcases Int.lt_trichotomy a.num 0 with h | h | h
      · rw [Int.sign_eq_neg_one_of_neg h]; decide
      · rw [h]; decide
      · rw [Int.sign_eq_one_of_pos h]; decide
    have := Nat.mul_le_mul_right a.den h3
    omega
  · rw [Rat.den_inv]
    split
    · rw [bl_one]; exact rbits_pos
    · exact h1
theorem rbits_div (a b : Rat) : rbits (a / b) ≤ rbits a + rbits b := by
  rw [Rat.div_def]
  have := rbits_mul a b⁻¹
  have := rbits_inv b
  omega
theorem rbits_int (n : Int) : rbits (n : Rat) ≤ max (bl n.natAbs) 1 := by
  refine rbits_of ?_ ?_
  · rw [Rat.num_intCast]; exact Nat.le_max_left _ _
  · rw [Rat.den_intCast, bl_one]; exact Nat.le_max_right _ _
theorem rbits_one : rbits 1 = 1 := by simp [rbits, bl_one]
theorem rbits_pow (a : Rat) : ∀ n : Nat, rbits (a ^ n) ≤ n * rbits a + 1
  | 0 => by rw [Rat.pow_zero, rbits_one]; omega
  | n + 1 => by
    rw [Rat.pow_succ]
    have h1 := rbits_mul (a ^ n) a
    have h2 := rbits_pow a n
    rw [Nat.add_mul]
    omega
def sgn (neg : Bool) (t : Nat) : Int := if neg then -(t : Int) else t
theorem sgn_abs (neg : Bool) (t : Nat) : (sgn neg t).natAbs = t := by cases neg <;> simp [sgn]
theorem sgn_neg {neg : Bool} {t : Nat} : sgn neg t < 0 ↔ neg = true ∧ t ≠ 0 := by cases neg <;> simp [sgn] <;> omega
theorem sgn_zero (neg : Bool) : sgn neg 0 = 0 := by cases neg <;> rfl
theorem sgn_self (z : Int) : sgn (decide (z < 0)) z.natAbs = z := by
  by_cases h : z < 0 <;> simp [sgn, h] <;> omega
theorem sgn_dvd {neg : Bool} {t g : Nat} : (sgn neg t) / (g : Int) = sgn neg (t / g) ∨ ¬ g ∣ t := by
  by_cases h : g ∣ t
  · left
    obtain ⟨k, rfl⟩ := h
    by_cases hg : g = 0
    · subst hg; simp [sgn_zero]
    · rw [Nat.mul_div_cancel_left _ (by omega)]
      cases neg
      · simp only [sgn]
        simp only [Bool.false_eq_true, if_false]
        rw [Int.natCast_mul, Int.mul_ediv_cancel_left _ (by omega)]
      · simp only [sgn, if_true]
        rw [Int.natCast_mul, ← Int.mul_neg, Int.mul_ediv_cancel_left _ (by omega)]
  · exact .inr h
theorem mk_num {neg : Bool} {t b : Nat} (hb : b ≠ 0) : (mkRat (sgn neg t) b).num = sgn neg (t / Nat.gcd t b) := by
  rw [Rat.num_mkRat, if_neg hb, sgn_abs, Nat.gcd_comm]
  rcases sgn_dvd (neg := neg) (t := t) (g := Nat.gcd t b) with h | h
  · exact h
  · exact absurd (Nat.gcd_dvd_left _ _) h
theorem mk_den {neg : Bool} {t b : Nat} (hb : b ≠ 0) : (mkRat (sgn neg t) b).den = b / Nat.gcd t b := by
  rw [Rat.den_mkRat, if_neg hb, sgn_abs, Nat.gcd_comm]
theorem mk_self (q : Rat) : mkRat (sgn (decide (q.num < 0)) q.num.natAbs) q.den = q := by rw [sgn_self, Rat.mkRat_self]
end Go.PM
/- Fractions: plain laws of sums, products and comparisons by parts. -/
namespace Go.PM
theorem sgn_mul (neg : Bool) (t d : Nat) : sgn neg (t * d) = sgn neg t * (d : Int) := by cases neg <;> simp [sgn, Int.neg_mul]
theorem as_mk_mul (q : Rat) {d : Nat} (hd : d ≠ 0) : mkRat (sgn (decide (q.num < 0)) (q.num.natAbs * d)) (q.den * d) = q := by
  rw [sgn_mul, Rat.mkRat_mul_right hd, mk_self]
theorem mk_add_same (X Y : Int) {B : Nat} (hB : B ≠ 0) : mkRat X B + mkRat Y B = mkRat (X + Y) B := by
  rw [Rat.mkRat_add_mkRat _ _ hB hB, ← Int.add_mul, Rat.mkRat_mul_right hB]
theorem sgn_add_same (n : Bool) (x y : Nat) : sgn n x + sgn n y = sgn n (x + y) := by cases n <;> simp [sgn] <;> omega
theorem sgn_add_ge {m n : Bool} (h : m ≠ n) {x y : Nat} (hx : y ≤ x) : sgn m x + sgn n y = sgn m (x - y) := by
  cases m <;> cases n <;> simp_all [sgn] <;> omega
theorem sgn_add_lt {m n : Bool} (h : m ≠ n) {x y : Nat} (hx : x ≤ y) : sgn m x + sgn n y = sgn n (y - x) := by
  cases m <;> cases n <;> simp_all [sgn] <;> omega
theorem mk_abs (n : Int) {d : Nat} (hd : d ≠ 0) : (mkRat n d).num.natAbs = n.natAbs / Nat.gcd n.natAbs d := by
  have := mk_num (neg := decide (n < 0)) (t := n.natAbs) (b := d) hd
  rw [sgn_self] at this
  rw [this, sgn_abs]
theorem mk_den' (n : Int) {d : Nat} (hd : d ≠ 0) : (mkRat n d).den = d / Nat.gcd n.natAbs d := by
  have := mk_den (neg := decide (n < 0)) (t := n.natAbs) (b := d) hd
  rwa [sgn_self] at this
theorem mk_neg (n : Int) {d : Nat} (hd : d ≠ 0) : (mkRat n d).num < 0 ↔ n < 0 := by
  have := mk_num (neg := decide (n < 0)) (t := n.natAbs) (b := d) hd
  rw [sgn_self] at this
  rw [this, sgn_neg]
  have h : n < 0 → n.natAbs / Nat.gcd n.natAbs d ≠ 0 := fun h => by
    have := Nat.div_pos (Nat.le_of_dvd (by omega) (Nat.gcd_dvd_left n.natAbs d)) (Nat.gcd_pos_of_pos_left d (show 0 < n.natAbs by omega))
    omega
  constructor
  · rintro ⟨h1, _⟩; simpa using h1
  · intro h1; exact ⟨by simpa using h1, h h1⟩
theorem mk_num_dvd (t : Nat) {d : Nat} (hd : d ≠ 0) : (mkRat (sgn false t) d).num.natAbs ∣ t ∧ (mkRat (sgn false t) d).den ∣ d := by
  rw [mk_abs _ hd, mk_den' _ hd, sgn_abs]
  exact ⟨Nat.div_dvd_of_dvd (Nat.gcd_dvd_left _ _), Nat.div_dvd_of_dvd (Nat.gcd_dvd_right _ _)⟩
theorem mul_parts (a b : Rat) : (a * b).num.natAbs = (mkRat (sgn false a.num.natAbs) b.den).num.natAbs * (mkRat (sgn false b.num.natAbs) a.den).num.natAbs ∧
    (a * b).den = (mkRat (sgn false a.num.natAbs) b.den).den * (mkRat (sgn false b.num.natAbs) a.den).den := by
  have ha := a.den_nz
  have hb := b.den_nz
  have hab : a.den * b.den ≠ 0 := Nat.mul_ne_zero ha hb
  obtain ⟨u1, u2⟩ := mk_num_dvd a.num.natAbs hb
  obtain ⟨v1, v2⟩ := mk_num_dvd b.num.natAbs ha
  have e : (mkRat (sgn false a.num.natAbs) b.den) * (mkRat (sgn false b.num.natAbs) a.den) = mkRat (sgn false a.num.natAbs * sgn false b.num.natAbs) (b.den * a.den) := Rat.mkRat_mul_mkRat _ _ _ _
  have en : ((mkRat (sgn false a.num.natAbs) b.den) * (mkRat (sgn false b.num.natAbs) a.den)).num.natAbs = (a * b).num.natAbs := by
    rw [e, Rat.mul_def', mk_abs _ hab, mk_abs _ (Nat.mul_ne_zero hb ha), Int.natAbs_mul, Int.natAbs_mul, sgn_abs, sgn_abs, Nat.mul_comm b.den]
  have ed : ((mkRat (sgn false a.num.natAbs) b.den) * (mkRat (sgn false b.num.natAbs) a.den)).den = (a * b).den := by
    rw [e, Rat.mul_def', mk_den' _ hab, mk_den' _ (Nat.mul_ne_zero hb ha), Int.natAbs_mul, Int.natAbs_mul, sgn_abs, sgn_abs, Nat.mul_comm b.den]
  rw [← en, ← ed]
  generalize hu : mkRat (sgn false a.num.natAbs) b.den = u at *
  generalize hv : mkRat (sgn false b.num.natAbs) a.den = v at *
  have c1 : Nat.Coprime u.num.natAbs u.den := u.reduced
  have c2 : Nat.Coprime v.num.natAbs v.den := v.reduced
  have c3 : Nat.Coprime u.num.natAbs v.den := Nat.Coprime.coprime_dvd_left u1 (Nat.Coprime.coprime_dvd_right v2 a.reduced)
  have c4 : Nat.Coprime v.num.natAbs u.den := Nat.Coprime.coprime_dvd_left v1 (Nat.Coprime.coprime_dvd_right u2 b.reduced)
  have c : Nat.gcd (u.num * v.num).natAbs (u.den * v.den) = 1 := by
    rw [Int.natAbs_mul]
    exact Nat.Coprime.mul_left (Nat.Coprime.mul_right c1 c3) (Nat.Coprime.mul_right c4 c2)
  rw [Rat.mul_def', mk_abs _ (Nat.mul_ne_zero u.den_nz v.den_nz), mk_den' _ (Nat.mul_ne_zero u.den_nz v.den_nz), c, Nat.div_one, Nat.div_one, Int.natAbs_mul]
  exact ⟨rfl, rfl⟩
theorem mul_neg_iff {a b : Rat} (ha : a.num ≠ 0) (hb : b.num ≠ 0) : (a * b).num < 0 ↔ (decide (a.num < 0) != decide (b.num < 0)) = true := by
  rw [Rat.mul_def', mk_neg _ (Nat.mul_ne_zero a.den_nz b.den_nz)]
  rcases Int.lt_or_gt_of_ne ha with h1 | h1 <;> rcases Int.lt_or_gt_of_ne hb with h2 | h2
  · have := Int.mul_pos_of_neg_of_neg h1 h2
    rw [decide_eq_true h1, decide_eq_true h2]
    simp; omega
  · have := Int.mul_neg_of_neg_of_pos h1 h2
    rw [decide_eq_true h1, decide_eq_false (show ¬ b.num < 0 by omega)]
    simp [this]
  · have := Int.mul_neg_of_pos_of_neg h1 h2
    rw [decide_eq_false (show ¬ a.num < 0 by omega), decide_eq_true h2]
    simp [this]
  · have := Int.mul_pos h1 h2
    rw [decide_eq_false (show ¬ a.num < 0 by omega), decide_eq_false (show ¬ b.num < 0 by omega)]
    simp; omega
def signQ (q : Rat) : Int := if q.num = 0 then 0 else if q.num < 0 then -1 else 1
def cmpQ (a b : Rat) : Int := if signQ a = signQ b then (if a.num < 0 then -cmpI (a.num.natAbs * b.den) (b.num.natAbs * a.den) else cmpI (a.num.natAbs * b.den) (b.num.natAbs * a.den)) else signQ a - signQ b
theorem cmpI_lt {m n : Nat} : cmpI m n < 0 ↔ m < n := by
  unfold cmpI
  split
  · omega
  · split <;> omega
theorem cmpI_gt {m n : Nat} : 0 < cmpI m n ↔ n < m := by
  unfold cmpI
  split
  · omega
  · split <;> omega
theorem cmpI_zero {m n : Nat} : cmpI m n = 0 ↔ m = n := by
  unfold cmpI
  split
  · omega
  · split <;> omega
theorem signQ_n {q : Rat} (h : q.num < 0) : signQ q = -1 := by unfold signQ; rw [if_neg (by omega), if_pos h]
theorem signQ_z {q : Rat} (h : q.num = 0) : signQ q = 0 := by unfold signQ; rw [if_pos h]
theorem signQ_p {q : Rat} (h : 0 < q.num) : signQ q = 1 := by unfold signQ; rw [if_neg (by omega), if_neg (by omega)]
theorem cmpQ_lt {a b : Rat} : cmpQ a b < 0 ↔ a < b := by
  rw [Rat.lt_iff]
  have hA : (0 : Int) < a.den := by have := a.den_nz; omega
  have hB : (0 : Int) < b.den := by have := b.den_nz; omega
  have eA : ((a.num.natAbs * b.den : Nat) : Int) = (a.num.natAbs : Int) * b.den := by simp
  have eB : ((b.num.natAbs * a.den : Nat) : Int) = (b.num.natAbs : Int) * a.den := by simp
  unfold cmpQ
  rcases Int.lt_trichotomy a.num 0 with h1 | h1 | h1 <;> rcases Int.lt_trichotomy b.num 0 with h2 | h2 | h2
  · rw [signQ_n h1, signQ_n h2, if_pos rfl, if_pos h1]
    have f1 : (a.num.natAbs : Int) = -a.num := by omega
    have f2 : (b.num.natAbs : Int) = -b.num := by omega
    rw [f1, Int.neg_mul] at eA
    rw [f2, Int.neg_mul] at eB
    have := @cmpI_gt (a.num.natAbs * b.den) (b.num.natAbs * a.den)
    omega
  · rw [signQ_n h1, signQ_z h2, if_neg (by decide), h2, Int.zero_mul]
    have := Int.mul_neg_of_neg_of_pos h1 hB
    omega
  · rw [signQ_n h1, signQ_p h2, if_neg (by decide)]
    have := Int.mul_neg_of_neg_of_pos h1 hB
    have := Int.mul_pos h2 hA
    omega
  · rw [signQ_z h1, signQ_n h2, if_neg (by decide), h1, Int.zero_mul]
    have := Int.mul_neg_of_neg_of_pos h2 hA
    omega
  · rw [signQ_z h1, signQ_z h2, if_pos rfl, h1, h2]; simp [cmpI]
  · rw [signQ_z h1, signQ_p h2, if_neg (by decide), h1, Int.zero_mul]
    have := Int.mul_pos h2 hA
    omega
  · rw [signQ_p h1, signQ_n h2, if_neg (by decide)]
    have := Int.mul_neg_of_neg_of_pos h2 hA
    have := Int.mul_pos h1 hB
    omega
  · rw [signQ_p h1, signQ_z h2, if_neg (by decide), h2, Int.zero_mul]
    have := Int.mul_pos h1 hB
    omega
  · rw [signQ_p h1, signQ_p h2, if_pos rfl, if_neg (by omega)]
    have f1 : (a.num.natAbs : Int) = a.num := by omega
    have f2 : (b.num.natAbs : Int) = b.num := by omega
    rw [f1] at eA
    rw [f2] at eB
    have := @cmpI_lt (a.num.natAbs * b.den) (b.num.natAbs * a.den)
    omega
theorem cmpI_neg (m n : Nat) : cmpI n m = -cmpI m n := by
  rcases Nat.lt_trichotomy m n with h | h | h
  · rw [cmpI, cmpI, if_neg (by omega), if_neg (by omega), if_pos h]; rfl
  · subst h; rw [cmpI, if_neg (by omega), if_pos rfl]; rfl
  · rw [cmpI, cmpI, if_pos h, if_neg (by omega), if_neg (by omega)]
theorem cmpQ_neg (a b : Rat) : cmpQ b a = -cmpQ a b := by
  unfold cmpQ
  by_cases h : signQ a = signQ b
  · have h2 : b.num < 0 ↔ a.num < 0 := by
      rcases Int.lt_trichotomy a.num 0 with h1 | h1 | h1 <;> rcases Int.lt_trichotomy b.num 0 with h2 | h2 | h2
      · simp [h1, h2]
      · rw [signQ_n h1, signQ_z h2] at h; omega
      · rw [signQ_n h1, signQ_p h2] at h; omega
      · rw [signQ_z h1, signQ_n h2] at h; omega
      · omega
      · rw [signQ_z h1, signQ_p h2] at h; omega
      · rw [signQ_p h1, signQ_n h2] at h; omega
      · rw [signQ_p h1, signQ_z h2] at h; omega
      · omega
    rw [if_pos h, if_pos h.symm, cmpI_neg]
    by_cases h3 : a.num < 0
    · rw [if_pos h3, if_pos (h2.2 h3)]
    · rw [if_neg h3, if_neg (mt h2.1 h3)]
  · rw [if_neg h, if_neg (fun h' => h h'.symm)]; omega
theorem cmpQ_gt {a b : Rat} : 0 < cmpQ a b ↔ b < a := by
  rw [← cmpQ_lt, cmpQ_neg a b]; omega
theorem signQ_zero {q : Rat} : signQ q = 0 ↔ q = 0 := by
  rw [← Rat.num_eq_zero]
  rcases Int.lt_trichotomy q.num 0 with h | h | h
  · rw [signQ_n h]; omega
  · rw [signQ_z h]; omega
  · rw [signQ_p h]; omega
end Go.PM
/- The program's fractions: what they look like; lowest terms; whole numbers; signs. -/
namespace Go.PM
open Go.Lib
def ratV (q : Rat) : VV := .agg [VB (decide (q.num < 0)), natV q.num.natAbs, natV q.den]
theorem ratV_pure (q : Rat) : pureV (ratV q) = true := by simp [ratV, pureV, pureL, natV_pure, isSc]
theorem ratV_res (q : Rat) : resV (ratV q) = true := by simp [ratV, resV, resL, natV_res, isSc]
theorem ratV_of {q : Rat} {neg : Bool} {t b : Nat} (h0 : q.num < 0 ↔ neg = true) (h1 : q.num.natAbs = t) (h2 : q.den = b) : ratV q = .agg [VB neg, natV t, natV b] := by
  subst h1 h2
  unfold ratV
  congr 4
  cases neg <;> simp_all
theorem ratV_mk {neg : Bool} {t b : Nat} (hb : b ≠ 0) (ht : t ≠ 0) : ratV (mkRat (sgn neg t) b) = .agg [VB neg, natV (t / Nat.gcd t b), natV (b / Nat.gcd t b)] := by
  refine ratV_of ?_ ?_ (mk_den hb)
  · rw [mk_num hb, sgn_neg]
    have h1 : t / Nat.gcd t b ≠ 0 := by
      have := Nat.div_pos (Nat.le_of_dvd (by omega) (Nat.gcd_dvd_left t b)) (Nat.gcd_pos_of_pos_left b (by omega))
      omega
    simp [h1]
  · rw [mk_num hb, sgn_abs]
theorem ratV_zero : ratV 0 = .agg [VB false, .tree [] .op, natV 1] := by
  rw [ratV_of (q := 0) (neg := false) (t := 0) (b := 1) (by simp) rfl rfl, natV_zero]
theorem vscal_nat (n : Nat) : vscal (natV n) = true := rfl
theorem isAny_nat (n : Nat) : isAny (natV n) = false := rfl
theorem vcells_nat (n : Nat) : vcells (natV n) = [natV n] := rfl
theorem isAny_rat (q : Rat) : isAny (ratV q) = false := rfl
theorem vcells_rat (q : Rat) : vcells (ratV q) = [VB (decide (q.num < 0)), natV q.num.natAbs, natV q.den] := rfl
theorem rd_rat (q : Rat) : rdCells true 3 (ratV q) 0 = some (ratV q) := rfl
theorem rd_rat0 (q : Rat) : rdCells false 1 (ratV q) 0 = some (VB (decide (q.num < 0))) := rfl
theorem rd_rat1 (q : Rat) : rdCells false 1 (ratV q) 1 = some (natV q.num.natAbs) := rfl
theorem rd_rat2 (q : Rat) : rdCells false 1 (ratV q) 2 = some (natV q.den) := rfl
theorem fz_agg3 {d : Nat} {H : VHeap} {u u' v v' w w' : VV} (h1 : fz (d + 1) H u = some u') (h2 : fz (d + 1) H v = some v') (h3 : fz (d + 1) H w = some w') : fz (d + 2) H (.agg [u, v, w]) = some (.agg [u', v', w']) := by
  have e : fz (d + 2) H (.agg [u, v, w]) = if pureV (.agg [u, v, w]) = true then some (.agg [u, v, w]) else ([u, v, w].mapM (fz (d + 1) H)).map .agg := rfl
  rw [e]
  by_cases hp : pureV (.agg [u, v, w]) = true
  · rw [if_pos hp]
    simp only [pureV, pureL, Bool.and_eq_true, and_true] at hp
    rw [fz_pure hp.1] at h1
    rw [fz_pure hp.2.1] at h2
    rw [fz_pure hp.2.2] at h3
    cases h1
    cases h2
    cases h3
    rfl
  · rw [if_neg hp, List.mapM_cons, h1, List.mapM_cons, h2, List.mapM_cons, h3]
    rfl
theorem fz_sc {d : Nat} {H : VHeap} {v : Value} (h : isSc v = true) : fz (d + 1) H (.sc v) = some (.sc v) := fz_pure h
theorem fz_parts {H : VHeap} {neg : Bool} {t b : Nat} : fz depth H (.agg [VB neg, natV t, natV b]) = some (.agg [VB neg, natV t, natV b]) := fz_res (by simp [pureV, pureL, natV_pure, isSc])
theorem fz_ratV {H : VHeap} (q : Rat) : fz depth H (ratV q) = some (ratV q) := fz_res (ratV_pure q)
theorem capW {n : Nat} (h : bl n ≤ 2199023255552) : (digs 4294967296 n).length ≤ 68719476736 := by
  have := len_W n
  omega
theorem capW' {n : Nat} (h : bl n ≤ 4398046511104) : (digs 4294967296 n).length ≤ 17592186044416 := by
  have := len_W n
  omega
theorem impl_lowest_v (neg : Bool) (t b : Nat) (hb : b ≠ 0) (ht : bl t ≤ 4398046511104) (hbl : bl b ≤ 4398046511104) : TC 100 [VB neg, natV t, natV b] (ratV (mkRat (sgn neg t) b)) := by
  refine TC.walk ⟨true, false⟩ impl_lowest_t rfl (Nat.le_of_ble_eq_true rfl) (by simp [pureL, natV_pure, pureV, isSc]) (ratV_res _) ?_
  by_cases h0 : t = 0
  · subst h0
    have hl : (((digs 4294967296 0).length : Nat) : Int) = 0 := by rw [digs_zero]; rfl
    have c1 : TC 101 [.sc (.int .u64 1)] (natV 1) := impl_natOf_v 1 (by decide)
    rw [sgn_zero, Rat.zero_mkRat, ratV_zero, ← natV_zero]
    simp only [impl_lowest, impl_lowest_c, len_natV, hl, c1, vscal_nat, isAny_nat, vcells_nat, yA6, yA1, yA5, vlen_rdef, yA2, vchk_pdef, yA3, visnil_nil, yA4, vrow_zero, vrow_succ, List.set_cons_zero, List.set_cons_succ, elemOf_one, elemOf_two, vresult, vresAll, vres1, vfill, isAny_sc, isAny_tree, isAny_ref, isAny_agg, isAny_clo, List.take_zero, List.take_succ_cons, List.take_nil, List.drop_zero, List.drop_succ_cons, List.drop_nil, List.append_nil, Nat.reduceLeDiff, Nat.le_refl, vsplice, Nat.reduceLT, Int.toNat_natCast, eq_self, ge_iff_le, Bool.and_eq_true, Nat.reduceSub, VX, Nat.reduceEqDiff, Nat.reduceAdd]
    exact fz_agg3 (fz_sc rfl) fz_nilD (fz_pure (natV_pure _))
  · have hl : ¬ (((digs 4294967296 t).length : Nat) : Int) = 0 := by have := len_pos.2 h0; omega
    have c1 := impl_nat_gcd_v t b (capW' ht) (capW' hbl)
    have hg0 : Nat.gcd t b ≠ 0 := Nat.gcd_ne_zero_right hb
    have hgl : bl (Nat.gcd t b) ≤ 4398046511104 := Nat.le_trans (bl_mono (Nat.gcd_le_right t (by omega))) hbl
    have c2 := impl_nat_div_v t _ hg0 (capW' ht) (capW' hgl)
    have c3 := impl_nat_div_v b _ hg0 (capW' hbl) (capW' hgl)
    rw [ratV_mk hb h0]
    by_cases h1 : ((digs 4294967296 (Nat.gcd t b)).length : Int) = 1
    · obtain ⟨d, hd⟩ : ∃ d, digs 4294967296 (Nat.gcd t b) = [d] := List.length_eq_one_iff.1 (by omega)
      obtain ⟨hgd, _, _⟩ := digs_one hd
      have e1 : viaddr 1 (natV (Nat.gcd t b)) (.sc (.int .i64 0)) [.row 0 [.agg [VB false, .tree [] .nil, .tree [] .nil]] 3 true] = some (.tptr (uV d) 0) := viaddr_map (f := uV) (xs := digs 4294967296 (Nat.gcd t b)) (i := 0) (k := .i64) (by rw [hd]; rfl) rfl
      by_cases h2 : (d : Int) = 1
      · have hg1 : Nat.gcd t b = 1 := by omega
        simp only [impl_lowest, impl_lowest_c, len_natV, hl, c1, h1, h2, e1, vscal_nat, isAny_nat, vcells_nat, yA6, yA1, yA5, vlen_rdef, yA2, vchk_pdef, yA3, visnil_nil, yA4, vrow_zero, vrow_succ, List.set_cons_zero, List.set_cons_succ, elemOf_one, elemOf_two, vresult, vresAll, vres1, vfill, isAny_sc, isAny_tree, isAny_ref, isAny_agg, isAny_clo, List.take_zero, List.take_succ_cons, List.take_nil, List.drop_zero, List.drop_succ_cons, List.drop_nil, List.append_nil, Nat.reduceLeDiff, Nat.le_refl, vsplice, Nat.reduceLT, Int.toNat_natCast, eq_self, ge_iff_le, Bool.and_eq_true, Nat.reduceSub, VX, Nat.reduceEqDiff, Nat.reduceAdd]
        rw [hg1, Nat.div_one, Nat.div_one]
        exact fz_parts
      · simp only [impl_lowest, impl_lowest_c, len_natV, hl, c1, c2, c3, h1, h2, e1, vscal_nat, isAny_nat, vcells_nat, yA6, yA1, yA5, vlen_rdef, yA2, vchk_pdef, yA3, visnil_nil, yA4, vrow_zero, vrow_succ, List.set_cons_zero, List.set_cons_succ, elemOf_one, elemOf_two, vresult, vresAll, vres1, vfill, isAny_sc, isAny_tree, isAny_ref, isAny_agg, isAny_clo, List.take_zero, List.take_succ_cons, List.take_nil, List.drop_zero, List.drop_succ_cons, List.drop_nil, List.append_nil, Nat.reduceLeDiff, Nat.le_refl, vsplice, Nat.reduceLT, Int.toNat_natCast, eq_self, ge_iff_le, Bool.and_eq_true, Nat.reduceSub, VX, Nat.reduceEqDiff, Nat.reduceAdd]
        exact fz_parts
    · simp only [impl_lowest, impl_lowest_c, len_natV, hl, c1, c2, c3, h1, vscal_nat, isAny_nat, vcells_nat, yA6, yA1, yA5, vlen_rdef, yA2, vchk_pdef, yA3, visnil_nil, yA4, vrow_zero, vrow_succ, List.set_cons_zero, List.set_cons_succ, elemOf_one, elemOf_two, vresult, vresAll, vres1, vfill, isAny_sc, isAny_tree, isAny_ref, isAny_agg, isAny_clo, List.take_zero, List.take_succ_cons, List.take_nil, List.drop_zero, List.drop_succ_cons, List.drop_nil, List.append_nil, Nat.reduceLeDiff, Nat.le_refl, vsplice, Nat.reduceLT, Int.toNat_natCast, eq_self, ge_iff_le, Bool.and_eq_true, Nat.reduceSub, VX, Nat.reduceEqDiff, Nat.reduceAdd]
      exact fz_parts
theorem magn_wrap {n : Int} (h0 : -9223372036854775808 ≤ n) (h : n < 0) : IntKind.u64.wrap (0 - IntKind.u64.wrap n) = (n.natAbs : Int) := by
  rw [wrap_u64, wrap_u64]
  omega
theorem impl_magnitude_v (n : Int) (h0 : -9223372036854775808 ≤ n) (h1 : n ≤ 9223372036854775807) : TC 102 [VI n] (VK .u64 (n.natAbs : Int)) := by
  refine TC.walk ⟨true, false⟩ impl_magnitude_t rfl (Nat.le_of_ble_eq_true rfl) rfl rfl ?_
  by_cases h : n < 0
  · simp only [impl_magnitude, impl_magnitude_c, h, magn_wrap h0 h, VX, Nat.reduceEqDiff, Nat.reduceAdd]
    exact fz_res rfl
  · have w : IntKind.u64.wrap n = (n.natAbs : Int) := by rw [wrap_u64]; omega
    simp only [impl_magnitude, impl_magnitude_c, h, w, VX, Nat.reduceEqDiff, Nat.reduceAdd]
    exact fz_res rfl
theorem ratV_int (n : Int) : ratV (n : Rat) = .agg [VB (decide (n < 0)), natV n.natAbs, natV 1] := ratV_of (by simp) (by simp) (by simp)
theorem impl_whole_v (n : Int) (h0 : -9223372036854775808 ≤ n) (h1 : n ≤ 9223372036854775807) : TC 61 [VI n] (ratV (n : Rat)) := by
  refine TC.walk ⟨true, false⟩ impl_whole_t rfl (Nat.le_of_ble_eq_true rfl) rfl (ratV_res _) ?_
  have c1 := impl_magnitude_v n h0 h1
  have c2 := impl_natOf_v n.natAbs (by omega)
  have c3 : TC 101 [.sc (.int .u64 1)] (natV 1) := impl_natOf_v 1 (by decide)
  rw [ratV_int]
  simp only [impl_whole, impl_whole_c, c1, c2, c3, vscal_nat, isAny_nat, vcells_nat, yA6, yA1, yA5, vlen_rdef, yA2, vchk_pdef, yA3, visnil_nil, yA4, vrow_zero, vrow_succ, List.set_cons_zero, List.set_cons_succ, elemOf_one, elemOf_two, vresult, vresAll, vres1, vfill, isAny_sc, isAny_tree, isAny_ref, isAny_agg, isAny_clo, List.take_zero, List.take_succ_cons, List.take_nil, List.drop_zero, List.drop_succ_cons, List.drop_nil, List.append_nil, Nat.reduceLeDiff, Nat.le_refl, vsplice, Nat.reduceLT, Int.toNat_natCast, eq_self, ge_iff_le, Bool.and_eq_true, Nat.reduceSub, VX, Nat.reduceEqDiff, Nat.reduceAdd]
  exact fz_parts
theorem len_num {q : Rat} : (((digs 4294967296 q.num.natAbs).length : Nat) : Int) = 0 ↔ q.num = 0 := by
  have := len_pos (n := q.num.natAbs)
  omega
theorem impl_rat_sign_v (q : Rat) : TC 69 [ratV q] (VI (signQ q)) := by
  refine TC.walk ⟨true, false⟩ _impl_rat__sign_t rfl (Nat.le_of_ble_eq_true rfl) (by simp [pureL, ratV_pure]) rfl ?_
  unfold signQ
  by_cases h0 : q.num = 0
  · have hl := len_num.2 h0
    rw [if_pos h0]
    simp only [_impl_rat__sign, _impl_rat__sign_c, len_natV, hl, vcells_rat, rd_rat0, rd_rat1, vscal_nat, isAny_nat, vcells_nat, yA6, yA1, yA5, vlen_rdef, yA2, vchk_pdef, yA3, visnil_nil, yA4, vrow_zero, vrow_succ, List.set_cons_zero, List.set_cons_succ, elemOf_one, elemOf_two, vresult, vresAll, vres1, vfill, isAny_sc, isAny_tree, isAny_ref, isAny_agg, isAny_clo, List.take_zero, List.take_succ_cons, List.take_nil, List.drop_zero, List.drop_succ_cons, List.drop_nil, List.append_nil, Nat.reduceLeDiff, Nat.le_refl, vsplice, Nat.reduceLT, Int.toNat_natCast, eq_self, ge_iff_le, Bool.and_eq_true, Nat.reduceSub, VX, Nat.reduceEqDiff, Nat.reduceAdd]
    exact fz_res rfl
  · have hl : ¬ (((digs 4294967296 q.num.natAbs).length : Nat) : Int) = 0 := fun h => h0 (len_num.1 h)
    rw [if_neg h0]
    by_cases h1 : q.num < 0
    · simp only [_impl_rat__sign, _impl_rat__sign_c, len_natV, hl, h1, vcells_rat, rd_rat0, rd_rat1, vscal_nat, isAny_nat, vcells_nat, yA6, yA1, yA5, vlen_rdef, yA2, vchk_pdef, yA3, visnil_nil, yA4, vrow_zero, vrow_succ, List.set_cons_zero, List.set_cons_succ, elemOf_one, elemOf_two, vresult, vresAll, vres1, vfill, isAny_sc, isAny_tree, isAny_ref, isAny_agg, isAny_clo, List.take_zero, List.take_succ_cons, List.take_nil, List.drop_zero, List.drop_succ_cons, List.drop_nil, List.append_nil, Nat.reduceLeDiff, Nat.le_refl, vsplice, Nat.reduceLT, Int.toNat_natCast, eq_self, ge_iff_le, Bool.and_eq_true, Nat.reduceSub, VX, Nat.reduceEqDiff, Nat.reduceAdd]
      exact fz_res rfl
    · simp only [_impl_rat__sign, _impl_rat__sign_c, len_natV, hl, h1, vcells_rat, rd_rat0, rd_rat1, vscal_nat, isAny_nat, vcells_nat, yA6, yA1, yA5, vlen_rdef, yA2, vchk_pdef, yA3, visnil_nil, yA4, vrow_zero, vrow_succ, List.set_cons_zero, List.set_cons_succ, elemOf_one, elemOf_two, vresult, vresAll, vres1, vfill, isAny_sc, isAny_tree, isAny_ref, isAny_agg, isAny_clo, List.take_zero, List.take_succ_cons, List.take_nil, List.drop_zero, List.drop_succ_cons, List.drop_nil, List.append_nil, Nat.reduceLeDiff, Nat.le_refl, vsplice, Nat.reduceLT, Int.toNat_natCast, eq_self, ge_iff_le, Bool.and_eq_true, Nat.reduceSub, VX, Nat.reduceEqDiff, Nat.reduceAdd]
      exact fz_res rfl
theorem impl_rat_minus_v (q : Rat) : TC 112 [ratV q] (ratV (-q)) := by
  refine TC.walk ⟨true, false⟩ _impl_rat__minus_t rfl (Nat.le_of_ble_eq_true rfl) (by simp [pureL, ratV_pure]) (ratV_res _) ?_
  have hq : ratV (-q) = .agg [VB (decide (0 < q.num)), natV q.num.natAbs, natV q.den] := ratV_of (by simp) (by simp) (by simp)
  rw [hq]
  by_cases h1 : q.num < 0
  · have h2 : ¬ 0 < q.num := by omega
    simp only [_impl_rat__minus, _impl_rat__minus_c, len_natV, h1, h2, vcells_rat, rd_rat0, rd_rat1, rd_rat2, vscal_nat, isAny_nat, vcells_nat, yA6, yA1, yA5, vlen_rdef, yA2, vchk_pdef, yA3, visnil_nil, yA4, vrow_zero, vrow_succ, List.set_cons_zero, List.set_cons_succ, elemOf_one, elemOf_two, vresult, vresAll, vres1, vfill, isAny_sc, isAny_tree, isAny_ref, isAny_agg, isAny_clo, List.take_zero, List.take_succ_cons, List.take_nil, List.drop_zero, List.drop_succ_cons, List.drop_nil, List.append_nil, Nat.reduceLeDiff, Nat.le_refl, vsplice, Nat.reduceLT, Int.toNat_natCast, eq_self, ge_iff_le, Bool.and_eq_true, Nat.reduceSub, VX, Nat.reduceEqDiff, Nat.reduceAdd]
    exact fz_parts
  · by_cases h0 : q.num = 0
    · have hl : ¬ (0 : Int) < ((digs 4294967296 q.num.natAbs).length : Int) := by have := len_num.2 h0; omega
      have h2 : ¬ 0 < q.num := by omega
      simp only [_impl_rat__minus, _impl_rat__minus_c, len_natV, hl, h1, h2, vcells_rat, rd_rat0, rd_rat1, rd_rat2, vscal_nat, isAny_nat, vcells_nat, yA6, yA1, yA5, vlen_rdef, yA2, vchk_pdef, yA3, visnil_nil, yA4, vrow_zero, vrow_succ, List.set_cons_zero, List.set_cons_succ, elemOf_one, elemOf_two, vresult, vresAll, vres1, vfill, isAny_sc, isAny_tree, isAny_ref, isAny_agg, isAny_clo, List.take_zero, List.take_succ_cons, List.take_nil, List.drop_zero, List.drop_succ_cons, List.drop_nil, List.append_nil, Nat.reduceLeDiff, Nat.le_refl, vsplice, Nat.reduceLT, Int.toNat_natCast, eq_self, ge_iff_le, Bool.and_eq_true, Nat.reduceSub, VX, Nat.reduceEqDiff, Nat.reduceAdd]
      exact fz_parts
    · have hl : (0 : Int) < ((digs 4294967296 q.num.natAbs).length : Int) := by have := mt len_num.1 h0; omega
      have h2 : 0 < q.num := by omega
      simp only [_impl_rat__minus, _impl_rat__minus_c, len_natV, hl, h1, h2, vcells_rat, rd_rat0, rd_rat1, rd_rat2, vscal_nat, isAny_nat, vcells_nat, yA6, yA1, yA5, vlen_rdef, yA2, vchk_pdef, yA3, visnil_nil, yA4, vrow_zero, vrow_succ, List.set_cons_zero, List.set_cons_succ, elemOf_one, elemOf_two, vresult, vresAll, vres1, vfill, isAny_sc, isAny_tree, isAny_ref, isAny_agg, isAny_clo, List.take_zero, List.take_succ_cons, List.take_nil, List.drop_zero, List.drop_succ_cons, List.drop_nil, List.append_nil, Nat.reduceLeDiff, Nat.le_refl, vsplice, Nat.reduceLT, Int.toNat_natCast, eq_self, ge_iff_le, Bool.and_eq_true, Nat.reduceSub, VX, Nat.reduceEqDiff, Nat.reduceAdd]
      exact fz_parts
end Go.PM
/- The program's fractions: sums, differences, products, quotients, comparisons. -/
namespace Go.PM
open Go.Lib
theorem eqb_bF (a b : Bool) : eqbV false (.bool a) (.bool b) = some (.bool (a == b)) := by
  show some (Value.bool ((a == b) != false)) = _
  rw [Bool.bne_false]
theorem eqb_bT (a b : Bool) : eqbV true (.bool a) (.bool b) = some (.bool (a != b)) := by
  show some (Value.bool ((a == b) != true)) = _
  cases a <;> cases b <;> rfl
theorem num_bl {q : Rat} {k : Nat} (h : rbits q ≤ k) : bl q.num.natAbs ≤ k := Nat.le_trans rbits_num h
theorem den_bl {q : Rat} {k : Nat} (h : rbits q ≤ k) : bl q.den ≤ k := Nat.le_trans rbits_den h
theorem add_parts {X Y B : Nat} {a b : Rat} (hB : B ≠ 0) (ha : mkRat (sgn (decide (a.num < 0)) X) B = a) (hb : mkRat (sgn (decide (b.num < 0)) Y) B = b) :
    ((decide (a.num < 0)) = (decide (b.num < 0)) → mkRat (sgn (decide (a.num < 0)) (X + Y)) B = a + b) ∧
    ((decide (a.num < 0)) ≠ (decide (b.num < 0)) → Y ≤ X → mkRat (sgn (decide (a.num < 0)) (X - Y)) B = a + b) ∧
    ((decide (a.num < 0)) ≠ (decide (b.num < 0)) → X ≤ Y → mkRat (sgn (decide (b.num < 0)) (Y - X)) B = a + b) := by
  refine ⟨fun h => ?_, fun h hx => ?_, fun h hx => ?_⟩
  · conv => rhs; rw [← ha, ← hb, mk_add_same _ _ hB, ← h, sgn_add_same]
  · conv => rhs; rw [← ha, ← hb, mk_add_same _ _ hB, sgn_add_ge h hx]
  · conv => rhs; rw [← ha, ← hb, mk_add_same _ _ hB, sgn_add_lt h hx]
theorem impl_rat_add_v (a b : Rat) (hka : rbits a ≤ 1099511627776) (hkb : rbits b ≤ 1099511627776) : TC 65 [ratV a, ratV b] (ratV (a + b)) := by
  refine TC.walk ⟨true, false⟩ _impl_rat__add_t rfl (Nat.le_of_ble_eq_true rfl) (by simp [pureL, ratV_pure]) (ratV_res _) ?_
  have ca := impl_rat_sign_v a
  have cb := impl_rat_sign_v b
  by_cases ha0 : a.num = 0
  · have : a = 0 := Rat.num_eq_zero.1 ha0
    rw [signQ_z ha0] at ca
    rw [this, Rat.zero_add, ← this]
    simp only [_impl_rat__add, _impl_rat__add_c, ca, cb, vcells_rat, rd_rat, isAny_rat, vscal_nat, isAny_nat, vcells_nat, yA6, yA1, yA5, vlen_rdef, yA2, vchk_pdef, yA3, visnil_nil, yA4, vrow_zero, vrow_succ, List.set_cons_zero, List.set_cons_succ, elemOf_one, elemOf_two, vresult, vresAll, vres1, vfill, isAny_sc, isAny_tree, isAny_ref, isAny_agg, isAny_clo, List.take_zero, List.take_succ_cons, List.take_nil, List.drop_zero, List.drop_succ_cons, List.drop_nil, List.append_nil, Nat.reduceLeDiff, Nat.le_refl, vsplice, Nat.reduceLT, Int.toNat_natCast, eq_self, ge_iff_le, Bool.and_eq_true, Nat.reduceSub, VX, Nat.reduceEqDiff, Nat.reduceAdd]
    exact fz_ratV _
  have hsa : ¬ signQ a = 0 := fun h => ha0 (Rat.num_eq_zero.2 (signQ_zero.1 h))
  by_cases hb0 : b.num = 0
  · have : b = 0 := Rat.num_eq_zero.1 hb0
    rw [signQ_z hb0] at cb
    rw [this, Rat.add_zero, ← this]
    simp only [_impl_rat__add, _impl_rat__add_c, ca, cb, hsa, vcells_rat, rd_rat, isAny_rat, vscal_nat, isAny_nat, vcells_nat, yA6, yA1, yA5, vlen_rdef, yA2, vchk_pdef, yA3, visnil_nil, yA4, vrow_zero, vrow_succ, List.set_cons_zero, List.set_cons_succ, elemOf_one, elemOf_two, vresult, vresAll, vres1, vfill, isAny_sc, isAny_tree, isAny_ref, isAny_agg, isAny_clo, List.take_zero, List.take_succ_cons, List.take_nil, List.drop_zero, List.drop_succ_cons, List.drop_nil, List.append_nil, Nat.reduceLeDiff, Nat.le_refl, vsplice, Nat.reduceLT, Int.toNat_natCast, eq_self, ge_iff_le, Bool.and_eq_true, Nat.reduceSub, VX, Nat.reduceEqDiff, Nat.reduceAdd]
    exact fz_ratV _
  have hsb : ¬ signQ b = 0 := fun h => hb0 (Rat.num_eq_zero.2 (signQ_zero.1 h))
  have la := num_bl hka
  have lb := num_bl hkb
  have lda := den_bl hka
  have ldb := den_bl hkb
  have fin : ∀ (X Y B : Nat), bl X ≤ 2199023255552 → bl Y ≤ 2199023255552 → bl B ≤ 2199023255552 → B ≠ 0 → mkRat (sgn (decide (a.num < 0)) X) B = a → mkRat (sgn (decide (b.num < 0)) Y) B = b →
      TC 113 [natV X, natV Y] (natV (X + Y)) ∧ TC 111 [natV X, natV Y] (VI (cmpI X Y)) ∧
      (Y ≤ X → TC 114 [natV X, natV Y] (natV (X - Y))) ∧ (X ≤ Y → TC 114 [natV Y, natV X] (natV (Y - X))) ∧
      (∀ neg, TC 100 [VB neg, natV (X + Y), natV B] (ratV (mkRat (sgn neg (X + Y)) B))) ∧
      (∀ neg, TC 100 [VB neg, natV (X - Y), natV B] (ratV (mkRat (sgn neg (X - Y)) B))) ∧
      (∀ neg, TC 100 [VB neg, natV (Y - X), natV B] (ratV (mkRat (sgn neg (Y - X)) B))) := by
    intro X Y B hX hY hB hB0 _ _
    refine ⟨impl_nat_add_v X Y (capW' (by omega)) (capW' (by omega)), impl_nat_cmp_v X Y (capW' (by omega)) (capW' (by omega)), fun h => impl_nat_sub_v X Y h (capW' (by omega)), fun h => impl_nat_sub_v Y X h (capW' (by omega)), fun neg => impl_lowest_v neg _ _ hB0 ?_ (by omega), fun neg => impl_lowest_v neg _ _ hB0 ?_ (by omega), fun neg => impl_lowest_v neg _ _ hB0 ?_ (by omega)⟩
    · exact Nat.le_trans (bl_add hX hY) (by omega)
    · exact Nat.le_trans (bl_mono (Nat.sub_le _ _)) (by omega)
    · exact Nat.le_trans (bl_mono (Nat.sub_le _ _)) (by omega)
  by_cases hd : a.den = b.den
  · have hBn := a.den_nz
    have cc := impl_nat_cmp_v a.den b.den (capW' (by omega)) (capW' (by omega))
    rw [show cmpI a.den b.den = 0 from cmpI_zero.2 hd] at cc
    have eb : mkRat (sgn (decide (b.num < 0)) b.num.natAbs) a.den = b := by rw [hd, mk_self]
    obtain ⟨f1, f2, f3, f4, f5, f6, f7⟩ := fin a.num.natAbs b.num.natAbs a.den (by omega) (by omega) (by omega) hBn (mk_self a) eb
    obtain ⟨p1, p2, p3⟩ := add_parts hBn (mk_self a) eb
    by_cases hn : decide (a.num < 0) = decide (b.num < 0)
    · have hn' : (decide (a.num < 0) == decide (b.num < 0)) = true := by simpa using hn
      rw [← p1 hn]
      simp only [_impl_rat__add, _impl_rat__add_c, ca, cb, hsa, hsb, cc, f1, f5, eqb_bF, eqb_bT, hn', vcells_rat, rd_rat, rd_rat0, rd_rat1, rd_rat2, isAny_rat, vscal_nat, isAny_nat, vcells_nat, yA6, yA1, yA5, vlen_rdef, yA2, vchk_pdef, yA3, visnil_nil, yA4, vrow_zero, vrow_succ, List.set_cons_zero, List.set_cons_succ, elemOf_one, elemOf_two, vresult, vresAll, vres1, vfill, isAny_sc, isAny_tree, isAny_ref, isAny_agg, isAny_clo, List.take_zero, List.take_succ_cons, List.take_nil, List.drop_zero, List.drop_succ_cons, List.drop_nil, List.append_nil, Nat.reduceLeDiff, Nat.le_refl, vsplice, Nat.reduceLT, Int.toNat_natCast, eq_self, ge_iff_le, Bool.and_eq_true, Nat.reduceSub, VX, Nat.reduceEqDiff, Nat.reduceAdd]
      exact fz_ratV _
    · have hn' : (decide (a.num < 0) == decide (b.num < 0)) = false := by simpa using hn
      by_cases hx : (0 : Int) ≤ cmpI a.num.natAbs b.num.natAbs
      · have hle : b.num.natAbs ≤ a.num.natAbs := by have := @cmpI_lt a.num.natAbs b.num.natAbs; omega
        have c3 := f3 hle
        rw [← p2 hn hle]
        simp only [_impl_rat__add, _impl_rat__add_c, ca, cb, hsa, hsb, cc, f2, c3, f6, hx, eqb_bF, eqb_bT, hn', vcells_rat, rd_rat, rd_rat0, rd_rat1, rd_rat2, isAny_rat, vscal_nat, isAny_nat, vcells_nat, yA6, yA1, yA5, vlen_rdef, yA2, vchk_pdef, yA3, visnil_nil, yA4, vrow_zero, vrow_succ, List.set_cons_zero, List.set_cons_succ, elemOf_one, elemOf_two, vresult, vresAll, vres1, vfill, isAny_sc, isAny_tree, isAny_ref, isAny_agg, isAny_clo, List.take_zero, List.take_succ_cons, List.take_nil, List.drop_zero, List.drop_succ_cons, List.drop_nil, List.append_nil, Nat.reduceLeDiff, Nat.le_refl, vsplice, Nat.reduceLT, Int.toNat_natCast, eq_self, ge_iff_le, Bool.and_eq_true, Nat.reduceSub, VX, Nat.reduceEqDiff, Nat.reduceAdd]
        exact fz_ratV _
      · have hle : a.num.natAbs ≤ b.num.natAbs := by have := @cmpI_lt a.num.natAbs b.num.natAbs; omega
        have c3 := f4 hle
        rw [← p3 hn hle]
        simp only [_impl_rat__add, _impl_rat__add_c, ca, cb, hsa, hsb, cc, f2, c3, f7, hx, eqb_bF, eqb_bT, hn', vcells_rat, rd_rat, rd_rat0, rd_rat1, rd_rat2, isAny_rat, vscal_nat, isAny_nat, vcells_nat, yA6, yA1, yA5, vlen_rdef, yA2, vchk_pdef, yA3, visnil_nil, yA4, vrow_zero, vrow_succ, List.set_cons_zero, List.set_cons_succ, elemOf_one, elemOf_two, vresult, vresAll, vres1, vfill, isAny_sc, isAny_tree, isAny_ref, isAny_agg, isAny_clo, List.take_zero, List.take_succ_cons, List.take_nil, List.drop_zero, List.drop_succ_cons, List.drop_nil, List.append_nil, Nat.reduceLeDiff, Nat.le_refl, vsplice, Nat.reduceLT, Int.toNat_natCast, eq_self, ge_iff_le, Bool.and_eq_true, Nat.reduceSub, VX, Nat.reduceEqDiff, Nat.reduceAdd]
        exact fz_ratV _
  · have hBn := Nat.mul_ne_zero a.den_nz b.den_nz
    have cc := impl_nat_cmp_v a.den b.den (capW' (by omega)) (capW' (by omega))
    have hcc : ¬ cmpI a.den b.den = 0 := fun h => hd (cmpI_zero.1 h)
    have m1 := impl_nat_mul_v a.num.natAbs b.den (capW' (by omega)) (capW' (by omega))
    have m2 := impl_nat_mul_v b.num.natAbs a.den (capW' (by omega)) (capW' (by omega))
    have m3 := impl_nat_mul_v a.den b.den (capW' (by omega)) (capW' (by omega))
    have ea : mkRat (sgn (decide (a.num < 0)) (a.num.natAbs * b.den)) (a.den * b.den) = a := as_mk_mul a b.den_nz
    have eb : mkRat (sgn (decide (b.num < 0)) (b.num.natAbs * a.den)) (a.den * b.den) = b := by rw [Nat.mul_comm a.den]; exact as_mk_mul b a.den_nz
    have k1 := bl_mul a.num.natAbs b.den
    have k2 := bl_mul b.num.natAbs a.den
    have k3 := bl_mul a.den b.den
    obtain ⟨f1, f2, f3, f4, f5, f6, f7⟩ := fin _ _ _ (by omega) (by omega) (by omega) hBn ea eb
    obtain ⟨p1, p2, p3⟩ := add_parts hBn ea eb
    by_cases hn : decide (a.num < 0) = decide (b.num < 0)
    · have hn' : (decide (a.num < 0) == decide (b.num < 0)) = true := by simpa using hn
      rw [← p1 hn]
      simp only [_impl_rat__add, _impl_rat__add_c, ca, cb, hsa, hsb, cc, hcc, m1, m2, m3, f1, f5, eqb_bF, eqb_bT, hn', vcells_rat, rd_rat, rd_rat0, rd_rat1, rd_rat2, isAny_rat, vscal_nat, isAny_nat, vcells_nat, yA6, yA1, yA5, vlen_rdef, yA2, vchk_pdef, yA3, visnil_nil, yA4, vrow_zero, vrow_succ, List.set_cons_zero, List.set_cons_succ, elemOf_one, elemOf_two, vresult, vresAll, vres1, vfill, isAny_sc, isAny_tree, isAny_ref, isAny_agg, isAny_clo, List.take_zero, List.take_succ_cons, List.take_nil, List.drop_zero, List.drop_succ_cons, List.drop_nil, List.append_nil, Nat.reduceLeDiff, Nat.le_refl, vsplice, Nat.reduceLT, Int.toNat_natCast, eq_self, ge_iff_le, Bool.and_eq_true, Nat.reduceSub, VX, Nat.reduceEqDiff, Nat.reduceAdd]
      exact fz_ratV _
    · have hn' : (decide (a.num < 0) == decide (b.num < 0)) = false := by simpa using hn
      by_cases hx : (0 : Int) ≤ cmpI (a.num.natAbs * b.den) (b.num.natAbs * a.den)
      · have hle : b.num.natAbs * a.den ≤ a.num.natAbs * b.den := by have := @cmpI_lt (a.num.natAbs * b.den) (b.num.natAbs * a.den); omega
        have c3 := f3 hle
        rw [← p2 hn hle]
        simp only [_impl_rat__add, _impl_rat__add_c, ca, cb, hsa, hsb, cc, hcc, m1, m2, m3, f2, c3, f6, hx, eqb_bF, eqb_bT, hn', vcells_rat, rd_rat, rd_rat0, rd_rat1, rd_rat2, isAny_rat, vscal_nat, isAny_nat, vcells_nat, yA6, yA1, yA5, vlen_rdef, yA2, vchk_pdef, yA3, visnil_nil, yA4, vrow_zero, vrow_succ, List.set_cons_zero, List.set_cons_succ, elemOf_one, elemOf_two, vresult, vresAll, vres1, vfill, isAny_sc, isAny_tree, isAny_ref, isAny_agg, isAny_clo, List.take_zero, List.take_succ_cons, List.take_nil, List.drop_zero, List.drop_succ_cons, List.drop_nil, List.append_nil, Nat.reduceLeDiff, Nat.le_refl, vsplice, Nat.reduceLT, Int.toNat_natCast, eq_self, ge_iff_le, Bool.and_eq_true, Nat.reduceSub, VX, Nat.reduceEqDiff, Nat.reduceAdd]
        exact fz_ratV _
      · have hle : a.num.natAbs * b.den ≤ b.num.natAbs * a.den := by have := @cmpI_lt (a.num.natAbs * b.den) (b.num.natAbs * a.den); omega
        have c3 := f4 hle
        rw [← p3 hn hle]
        simp only [_impl_rat__add, _impl_rat__add_c, ca, cb, hsa, hsb, cc, hcc, m1, m2, m3, f2, c3, f7, hx, eqb_bF, eqb_bT, hn', vcells_rat, rd_rat, rd_rat0, rd_rat1, rd_rat2, isAny_rat, vscal_nat, isAny_nat, vcells_nat, yA6, yA1, yA5, vlen_rdef, yA2, vchk_pdef, yA3, visnil_nil, yA4, vrow_zero, vrow_succ, List.set_cons_zero, List.set_cons_succ, elemOf_one, elemOf_two, vresult, vresAll, vres1, vfill, isAny_sc, isAny_tree, isAny_ref, isAny_agg, isAny_clo, List.take_zero, List.take_succ_cons, List.take_nil, List.drop_zero, List.drop_succ_cons, List.drop_nil, List.append_nil, Nat.reduceLeDiff, Nat.le_refl, vsplice, Nat.reduceLT, Int.toNat_natCast, eq_self, ge_iff_le, Bool.and_eq_true, Nat.reduceSub, VX, Nat.reduceEqDiff, Nat.reduceAdd]
        exact fz_ratV _
theorem impl_rat_sub_v (a b : Rat) (hka : rbits a ≤ 1099511627776) (hkb : rbits b ≤ 1099511627776) : TC 63 [ratV a, ratV b] (ratV (a - b)) := by
  refine TC.walk ⟨true, false⟩ _impl_rat__sub_t rfl (Nat.le_of_ble_eq_true rfl) (by simp [pureL, ratV_pure]) (ratV_res _) ?_
  have c1 := impl_rat_minus_v b
  have c2 := impl_rat_add_v a (-b) hka (by rw [rbits_neg]; exact hkb)
  rw [← Rat.sub_eq_add_neg] at c2
  simp only [_impl_rat__sub, _impl_rat__sub_c, c1, c2, vcells_rat, rd_rat, isAny_rat, vscal_nat, isAny_nat, vcells_nat, yA6, yA1, yA5, vlen_rdef, yA2, vchk_pdef, yA3, visnil_nil, yA4, vrow_zero, vrow_succ, List.set_cons_zero, List.set_cons_succ, elemOf_one, elemOf_two, vresult, vresAll, vres1, vfill, isAny_sc, isAny_tree, isAny_ref, isAny_agg, isAny_clo, List.take_zero, List.take_succ_cons, List.take_nil, List.drop_zero, List.drop_succ_cons, List.drop_nil, List.append_nil, Nat.reduceLeDiff, Nat.le_refl, vsplice, Nat.reduceLT, Int.toNat_natCast, eq_self, ge_iff_le, Bool.and_eq_true, Nat.reduceSub, VX, Nat.reduceEqDiff, Nat.reduceAdd]
  exact fz_ratV _
theorem impl_rat_mul_v (a b : Rat) (hka : rbits a ≤ 1099511627776) (hkb : rbits b ≤ 1099511627776) : TC 66 [ratV a, ratV b] (ratV (a * b)) := by
  refine TC.walk ⟨true, false⟩ _impl_rat__mul_t rfl (Nat.le_of_ble_eq_true rfl) (by simp [pureL, ratV_pure]) (ratV_res _) ?_
  have ca := impl_rat_sign_v a
  have cb := impl_rat_sign_v b
  have c0 : TC 61 [VI 0] (ratV 0) := impl_whole_v 0 (by decide) (by decide)
  by_cases ha0 : a.num = 0
  · have : a = 0 := Rat.num_eq_zero.1 ha0
    rw [signQ_z ha0] at ca
    rw [show a * b = 0 by rw [this, Rat.zero_mul]]
    simp only [_impl_rat__mul, _impl_rat__mul_c, ca, cb, c0, vcells_rat, rd_rat, isAny_rat, vscal_nat, isAny_nat, vcells_nat, yA6, yA1, yA5, vlen_rdef, yA2, vchk_pdef, yA3, visnil_nil, yA4, vrow_zero, vrow_succ, List.set_cons_zero, List.set_cons_succ, elemOf_one, elemOf_two, vresult, vresAll, vres1, vfill, isAny_sc, isAny_tree, isAny_ref, isAny_agg, isAny_clo, List.take_zero, List.take_succ_cons, List.take_nil, List.drop_zero, List.drop_succ_cons, List.drop_nil, List.append_nil, Nat.reduceLeDiff, Nat.le_refl, vsplice, Nat.reduceLT, Int.toNat_natCast, eq_self, ge_iff_le, Bool.and_eq_true, Nat.reduceSub, VX, Nat.reduceEqDiff, Nat.reduceAdd]
    exact fz_ratV _
  have hsa : ¬ signQ a = 0 := fun h => ha0 (Rat.num_eq_zero.2 (signQ_zero.1 h))
  by_cases hb0 : b.num = 0
  · have : b = 0 := Rat.num_eq_zero.1 hb0
    rw [signQ_z hb0] at cb
    rw [show a * b = 0 by rw [this, Rat.mul_zero]]
    simp only [_impl_rat__mul, _impl_rat__mul_c, ca, cb, hsa, c0, vcells_rat, rd_rat, isAny_rat, vscal_nat, isAny_nat, vcells_nat, yA6, yA1, yA5, vlen_rdef, yA2, vchk_pdef, yA3, visnil_nil, yA4, vrow_zero, vrow_succ, List.set_cons_zero, List.set_cons_succ, elemOf_one, elemOf_two, vresult, vresAll, vres1, vfill, isAny_sc, isAny_tree, isAny_ref, isAny_agg, isAny_clo, List.take_zero, List.take_succ_cons, List.take_nil, List.drop_zero, List.drop_succ_cons, List.drop_nil, List.append_nil, Nat.reduceLeDiff, Nat.le_refl, vsplice, Nat.reduceLT, Int.toNat_natCast, eq_self, ge_iff_le, Bool.and_eq_true, Nat.reduceSub, VX, Nat.reduceEqDiff, Nat.reduceAdd]
    exact fz_ratV _
  have hsb : ¬ signQ b = 0 := fun h => hb0 (Rat.num_eq_zero.2 (signQ_zero.1 h))
  have la := num_bl hka
  have lb := num_bl hkb
  have lda := den_bl hka
  have ldb := den_bl hkb
  have l1 := impl_lowest_v false a.num.natAbs b.den b.den_nz (by omega) (by omega)
  have l2 := impl_lowest_v false b.num.natAbs a.den a.den_nz (by omega) (by omega)
  obtain ⟨d1, d2⟩ := mk_num_dvd a.num.natAbs b.den_nz
  obtain ⟨d3, d4⟩ := mk_num_dvd b.num.natAbs a.den_nz
  have b1 := bl_mono (Nat.le_of_dvd (by omega) d1)
  have b2 := bl_mono (Nat.le_of_dvd (Nat.pos_of_ne_zero b.den_nz) d2)
  have b3 := bl_mono (Nat.le_of_dvd (by omega) d3)
  have b4 := bl_mono (Nat.le_of_dvd (Nat.pos_of_ne_zero a.den_nz) d4)
  obtain ⟨e1, e2⟩ := mul_parts a b
  have e3 := mul_neg_iff ha0 hb0
  generalize mkRat (sgn false a.num.natAbs) b.den = u at *
  generalize mkRat (sgn false b.num.natAbs) a.den = v at *
  have m1 := impl_nat_mul_v u.num.natAbs v.num.natAbs (capW' (by omega)) (capW' (by omega))
  have m2 := impl_nat_mul_v u.den v.den (capW' (by omega)) (capW' (by omega))
  rw [ratV_of e3 e1 e2]
  simp only [_impl_rat__mul, _impl_rat__mul_c, ca, cb, hsa, hsb, l1, l2, m1, m2, eqb_bF, eqb_bT, vcells_rat, rd_rat, rd_rat0, rd_rat1, rd_rat2, isAny_rat, vscal_nat, isAny_nat, vcells_nat, yA6, yA1, yA5, vlen_rdef, yA2, vchk_pdef, yA3, visnil_nil, yA4, vrow_zero, vrow_succ, List.set_cons_zero, List.set_cons_succ, elemOf_one, elemOf_two, vresult, vresAll, vres1, vfill, isAny_sc, isAny_tree, isAny_ref, isAny_agg, isAny_clo, List.take_zero, List.take_succ_cons, List.take_nil, List.drop_zero, List.drop_succ_cons, List.drop_nil, List.append_nil, Nat.reduceLeDiff, Nat.le_refl, vsplice, Nat.reduceLT, Int.toNat_natCast, eq_self, ge_iff_le, Bool.and_eq_true, Nat.reduceSub, VX, Nat.reduceEqDiff, Nat.reduceAdd]
  exact fz_parts
theorem ratV_inv {b : Rat} (h : b ≠ 0) : ratV b⁻¹ = .agg [VB (decide (b.num < 0)), natV b.den, natV b.num.natAbs] := by
  have hn : b.num ≠ 0 := fun hn => h (Rat.num_eq_zero.1 hn)
  have hd : (0 : Int) < b.den := by have := b.den_nz; omega
  refine ratV_of ?_ ?_ ?_
  · rw [Rat.num_inv, decide_eq_true_eq]
    rcases Int.lt_or_gt_of_ne hn with h1 | h1
    · rw [Int.sign_eq_neg_one_of_neg h1]; omega
    · rw [Int.sign_eq_one_of_pos h1]; omega
  · rw [Rat.num_inv, Int.natAbs_mul, Int.natAbs_natCast]
    rcases Int.lt_or_gt_of_ne hn with h1 | h1
    · rw [Int.sign_eq_neg_one_of_neg h1]; simp
    · rw [Int.sign_eq_one_of_pos h1]; simp
  · rw [Rat.den_inv, if_neg hn]
theorem impl_rat_over_v (a b : Rat) (hb : b ≠ 0) (hka : rbits a ≤ 1099511627776) (hkb : rbits b ≤ 1099511627776) : TC 64 [ratV a, ratV b] (ratV (a / b)) := by
  refine TC.walk ⟨true, false⟩ _impl_rat__over_t rfl (Nat.le_of_ble_eq_true rfl) (by simp [pureL, ratV_pure]) (ratV_res _) ?_
  have c1 := impl_rat_mul_v a b⁻¹ hka (Nat.le_trans (rbits_inv b) hkb)
  rw [← Rat.div_def, ratV_inv hb] at c1
  simp only [_impl_rat__over, _impl_rat__over_c, c1, vcells_rat, rd_rat, rd_rat0, rd_rat1, rd_rat2, isAny_rat, vscal_nat, isAny_nat, vcells_nat, yA6, yA1, yA5, vlen_rdef, yA2, vchk_pdef, yA3, visnil_nil, yA4, vrow_zero, vrow_succ, List.set_cons_zero, List.set_cons_succ, elemOf_one, elemOf_two, vresult, vresAll, vres1, vfill, isAny_sc, isAny_tree, isAny_ref, isAny_agg, isAny_clo, List.take_zero, List.take_succ_cons, List.take_nil, List.drop_zero, List.drop_succ_cons, List.drop_nil, List.append_nil, Nat.reduceLeDiff, Nat.le_refl, vsplice, Nat.reduceLT, Int.toNat_natCast, eq_self, ge_iff_le, Bool.and_eq_true, Nat.reduceSub, VX, Nat.reduceEqDiff, Nat.reduceAdd]
  exact fz_ratV _
theorem signQ_range (q : Rat) : -1 ≤ signQ q ∧ signQ q ≤ 1 := by
  rcases Int.lt_trichotomy q.num 0 with h | h | h
  · rw [signQ_n h]; omega
  · rw [signQ_z h]; omega
  · rw [signQ_p h]; omega
theorem cmpI_range (m n : Nat) : -1 ≤ cmpI m n ∧ cmpI m n ≤ 1 := by
  rcases Nat.lt_trichotomy m n with h | h | h
  · rw [cmpI, if_pos h]; omega
  · subst h; rw [cmpI, if_neg (by omega), if_pos rfl]; omega
  · rw [cmpI, if_neg (by omega), if_neg (by omega)]; omega
theorem impl_rat_cmp_v (a b : Rat) (hka : rbits a ≤ 1099511627776) (hkb : rbits b ≤ 1099511627776) : TC 62 [ratV a, ratV b] (VI (cmpQ a b)) := by
  refine TC.walk ⟨true, false⟩ _impl_rat__cmp_t rfl (Nat.le_of_ble_eq_true rfl) (by simp [pureL, ratV_pure]) rfl ?_
  have ca := impl_rat_sign_v a
  have cb := impl_rat_sign_v b
  have la := num_bl hka
  have lb := num_bl hkb
  have lda := den_bl hka
  have ldb := den_bl hkb
  have k1 := bl_mul a.num.natAbs b.den
  have k2 := bl_mul b.num.natAbs a.den
  have m1 := impl_nat_mul_v a.num.natAbs b.den (capW' (by omega)) (capW' (by omega))
  have m2 := impl_nat_mul_v b.num.natAbs a.den (capW' (by omega)) (capW' (by omega))
  have c1 := impl_nat_cmp_v (a.num.natAbs * b.den) (b.num.natAbs * a.den) (capW' (by omega)) (capW' (by omega))
  have ra := signQ_range a
  have rb := signQ_range b
  have rc := cmpI_range (a.num.natAbs * b.den) (b.num.natAbs * a.den)
  unfold cmpQ
  by_cases hs : signQ a = signQ b
  · rw [if_pos hs]
    have w : IntKind.i64.wrap (0 - cmpI (a.num.natAbs * b.den) (b.num.natAbs * a.den)) = -cmpI (a.num.natAbs * b.den) (b.num.natAbs * a.den) := by rw [wrap64 (by omega) (by omega)]; omega
    by_cases hn : a.num < 0
    · rw [if_pos hn]
      simp only [_impl_rat__cmp, _impl_rat__cmp_c, ca, cb, hs, m1, m2, c1, hn, w, vcells_rat, rd_rat, rd_rat0, rd_rat1, rd_rat2, isAny_rat, vscal_nat, isAny_nat, vcells_nat, yA6, yA1, yA5, vlen_rdef, yA2, vchk_pdef, yA3, visnil_nil, yA4, vrow_zero, vrow_succ, List.set_cons_zero, List.set_cons_succ, elemOf_one, elemOf_two, vresult, vresAll, vres1, vfill, isAny_sc, isAny_tree, isAny_ref, isAny_agg, isAny_clo, List.take_zero, List.take_succ_cons, List.take_nil, List.drop_zero, List.drop_succ_cons, List.drop_nil, List.append_nil, Nat.reduceLeDiff, Nat.le_refl, vsplice, Nat.reduceLT, Int.toNat_natCast, eq_self, ge_iff_le, Bool.and_eq_true, Nat.reduceSub, VX, Nat.reduceEqDiff, Nat.reduceAdd]
      exact fz_res rfl
    · rw [if_neg hn]
      simp only [_impl_rat__cmp, _impl_rat__cmp_c, ca, cb, hs, m1, m2, c1, hn, vcells_rat, rd_rat, rd_rat0, rd_rat1, rd_rat2, isAny_rat, vscal_nat, isAny_nat, vcells_nat, yA6, yA1, yA5, vlen_rdef, yA2, vchk_pdef, yA3, visnil_nil, yA4, vrow_zero, vrow_succ, List.set_cons_zero, List.set_cons_succ, elemOf_one, elemOf_two, vresult, vresAll, vres1, vfill, isAny_sc, isAny_tree, isAny_ref, isAny_agg, isAny_clo, List.take_zero, List.take_succ_cons, List.take_nil, List.drop_zero, List.drop_succ_cons, List.drop_nil, List.append_nil, Nat.reduceLeDiff, Nat.le_refl, vsplice, Nat.reduceLT, Int.toNat_natCast, eq_self, ge_iff_le, Bool.and_eq_true, Nat.reduceSub, VX, Nat.reduceEqDiff, Nat.reduceAdd]
      exact fz_res rfl
  · rw [if_neg hs]
    have w : IntKind.i64.wrap (signQ a - signQ b) = signQ a - signQ b := wrap64 (by omega) (by omega)
    simp only [_impl_rat__cmp, _impl_rat__cmp_c, ca, cb, hs, w, vcells_rat, rd_rat, rd_rat0, rd_rat1, rd_rat2, isAny_rat, vscal_nat, isAny_nat, vcells_nat, yA6, yA1, yA5, vlen_rdef, yA2, vchk_pdef, yA3, visnil_nil, yA4, vrow_zero, vrow_succ, List.set_cons_zero, List.set_cons_succ, elemOf_one, elemOf_two, vresult, vresAll, vres1, vfill, isAny_sc, isAny_tree, isAny_ref, isAny_agg, isAny_clo, List.take_zero, List.take_succ_cons, List.take_nil, List.drop_zero, List.drop_succ_cons, List.drop_nil, List.append_nil, Nat.reduceLeDiff, Nat.le_refl, vsplice, Nat.reduceLT, Int.toNat_natCast, eq_self, ge_iff_le, Bool.and_eq_true, Nat.reduceSub, VX, Nat.reduceEqDiff, Nat.reduceAdd]
    exact fz_res rfl
def compQ (a b : Rat) : Int := if a < b then -1 else if b < a then 1 else 0
theorem impl_rat_compared_v (a b : Rat) (hka : rbits a ≤ 1099511627776) (hkb : rbits b ≤ 1099511627776) : TC 90 [ratV a, ratV b] (VI (compQ a b)) := by
  refine TC.walk ⟨true, false⟩ _impl_rat__compared_t rfl (Nat.le_of_ble_eq_true rfl) (by simp [pureL, ratV_pure]) rfl ?_
  have c1 := impl_rat_cmp_v a b hka hkb
  unfold compQ
  by_cases h1 : cmpQ a b < 0
  · rw [if_pos (cmpQ_lt.1 h1)]
    simp only [_impl_rat__compared, _impl_rat__compared_c, c1, h1, vcells_rat, rd_rat, isAny_rat, vscal_nat, isAny_nat, vcells_nat, yA6, yA1, yA5, vlen_rdef, yA2, vchk_pdef, yA3, visnil_nil, yA4, vrow_zero, vrow_succ, List.set_cons_zero, List.set_cons_succ, elemOf_one, elemOf_two, vresult, vresAll, vres1, vfill, isAny_sc, isAny_tree, isAny_ref, isAny_agg, isAny_clo, List.take_zero, List.take_succ_cons, List.take_nil, List.drop_zero, List.drop_succ_cons, List.drop_nil, List.append_nil, Nat.reduceLeDiff, Nat.le_refl, vsplice, Nat.reduceLT, Int.toNat_natCast, eq_self, ge_iff_le, Bool.and_eq_true, Nat.reduceSub, VX, Nat.reduceEqDiff, Nat.reduceAdd]
    exact fz_res rfl
  · rw [if_neg (mt cmpQ_lt.2 h1)]
    by_cases h2 : 0 < cmpQ a b
    · rw [if_pos (cmpQ_gt.1 h2)]
      simp only [_impl_rat__compared, _impl_rat__compared_c, c1, h1, h2, vcells_rat, rd_rat, isAny_rat, vscal_nat, isAny_nat, vcells_nat, yA6, yA1, yA5, vlen_rdef, yA2, vchk_pdef, yA3, visnil_nil, yA4, vrow_zero, vrow_succ, List.set_cons_zero, List.set_cons_succ, elemOf_one, elemOf_two, vresult, vresAll, vres1, vfill, isAny_sc, isAny_tree, isAny_ref, isAny_agg, isAny_clo, List.take_zero, List.take_succ_cons, List.take_nil, List.drop_zero, List.drop_succ_cons, List.drop_nil, List.append_nil, Nat.reduceLeDiff, Nat.le_refl, vsplice, Nat.reduceLT, Int.toNat_natCast, eq_self, ge_iff_le, Bool.and_eq_true, Nat.reduceSub, VX, Nat.reduceEqDiff, Nat.reduceAdd]
      exact fz_res rfl
    · rw [if_neg (mt cmpQ_gt.2 h2)]
      simp only [_impl_rat__compared, _impl_rat__compared_c, c1, h1, h2, vcells_rat, rd_rat, isAny_rat, vscal_nat, isAny_nat, vcells_nat, yA6, yA1, yA5, vlen_rdef, yA2, vchk_pdef, yA3, visnil_nil, yA4, vrow_zero, vrow_succ, List.set_cons_zero, List.set_cons_succ, elemOf_one, elemOf_two, vresult, vresAll, vres1, vfill, isAny_sc, isAny_tree, isAny_ref, isAny_agg, isAny_clo, List.take_zero, List.take_succ_cons, List.take_nil, List.drop_zero, List.drop_succ_cons, List.drop_nil, List.append_nil, Nat.reduceLeDiff, Nat.le_refl, vsplice, Nat.reduceLT, Int.toNat_natCast, eq_self, ge_iff_le, Bool.and_eq_true, Nat.reduceSub, VX, Nat.reduceEqDiff, Nat.reduceAdd]
      exact fz_res rfl
end Go.PM
/- Fractions: their texts. -/
namespace Go.PM
open Go.Lib
theorem dec_dec {m n : Nat} (h : decDigits m = decDigits n) : m = n := by
  have key : ∀ k m n : Nat, m < 10 ^ (k + 1) → decDigits m = decDigits n → m = n := by
    intro k
    induction k with
    | zero =>
      intro m n hm h
      rw [dec_small (by omega)] at h
      by_cases hn : n < 10
      · rw [dec_small hn] at h
        have h1 := List.singleton_inj.1 h
        unfold d10 at h1
        have := congrArg UInt8.toNat h1
        simp at this
        omega
      · rw [dec_big hn] at h
        have := congrArg List.length h
        have h2 := List.length_pos_iff.2 (dec_ne (n / 10))
        simp only [List.length_append, List.length_cons, List.length_nil] at this
        omega
    | succ k ih =>
      intro m n hm h
      by_cases h1 : m < 10
      · rw [dec_small h1] at h
        by_cases hn : n < 10
        · rw [dec_small hn] at h
          have h1 := List.singleton_inj.1 h
          unfold d10 at h1
          have := congrArg UInt8.toNat h1
          simp at this
          omega
        · rw [dec_big hn] at h
          have := congrArg List.length h
          have h2 := List.length_pos_iff.2 (dec_ne (n / 10))
          simp only [List.length_append, List.length_cons, List.length_nil] at this
          omega
      · rw [dec_big h1] at h
        by_cases hn : n < 10
        · rw [dec_small hn] at h
          have := congrArg List.length h
          have h2 := List.length_pos_iff.2 (dec_ne (m / 10))
          simp only [List.length_append, List.length_cons, List.length_nil] at this
          omega
        · rw [dec_big hn] at h
          obtain ⟨h2, h3⟩ := List.append_inj' h rfl
          have h4 := ih (m / 10) (n / 10) (by rw [Nat.pow_succ] at hm; omega) h2
          have h5 := List.singleton_inj.1 h3
          unfold d10 at h5
          have := congrArg UInt8.toNat h5
          simp at this
          omega
  exact key m m n (Nat.lt_trans (Nat.lt_pow_self (by decide)) (Nat.pow_lt_pow_right (by decide) (Nat.lt_succ_self m))) h
def showQ (q : Rat) : List UInt8 := (if q.num < 0 then [45] else []) ++ decDigits q.num.natAbs ++ (if q.den = 1 then [] else 47 :: decDigits q.den)
def fitsQ (q : Rat) : Bool := decide ((decDigits q.num.natAbs).length ≤ 200) && decide ((decDigits q.den).length ≤ 200)
theorem dec_bits (n : Nat) : (decDigits n).length ≤ bl n + 1 := by
  by_cases h : n = 0
  · subst h; rw [dec_small (by decide)]; simp
  · have h1 := bl_pos h
    obtain ⟨k, hk⟩ : ∃ k, bl n = k + 1 := ⟨bl n - 1, by omega⟩
    have h2 := bl_lt n
    rw [hk] at h2 ⊢
    have h3 : 2 ^ (k + 1) ≤ 10 ^ (k + 1) := Nat.pow_le_pow_left (by decide) _
    have := dec_len_le n k (by omega)
    omega
end Go.PM
/- The program's fractions: their texts. -/
namespace Go.PM
open Go.Lib
theorem str_neq (a b : List UInt8) : pbin .neq (.string ⟨a.toArray⟩) (.string ⟨b.toArray⟩) = some (.bool (!decide (a = b))) := by
  have h : ∀ l : List UInt8, (ByteArray.toList ⟨l.toArray⟩) = l := fun l => by rw [ByteArray.toList_eq]
  show some (Value.bool (!(ByteArray.toList ⟨a.toArray⟩ == ByteArray.toList ⟨b.toArray⟩))) = _
  rw [h, h]
  congr 3
  cases h2 : a == b
  · rw [decide_eq_false (by simpa using h2)]
  · rw [decide_eq_true (by simpa using h2)]
theorem str_eql (a b : List UInt8) : pbin .eql (.string ⟨a.toArray⟩) (.string ⟨b.toArray⟩) = some (.bool (decide (a = b))) := by
  have h : ∀ l : List UInt8, (ByteArray.toList ⟨l.toArray⟩) = l := fun l => by rw [ByteArray.toList_eq]
  show some (Value.bool (ByteArray.toList ⟨a.toArray⟩ == ByteArray.toList ⟨b.toArray⟩)) = _
  rw [h, h]
  congr 2
  cases h2 : a == b
  · rw [decide_eq_false (by simpa using h2)]
  · rw [decide_eq_true (by simpa using h2)]
theorem den_is_one {n : Nat} : (decDigits n = [49]) ↔ n = 1 := by
  have e : decDigits 1 = [49] := by rw [dec_small (by decide)]; rfl
  rw [← e]
  exact ⟨dec_dec, fun h => by rw [h]⟩
theorem impl_rat_text_v (q : Rat) (hk : rbits q ≤ 1099511627776) : TC 116 [ratV q] (.tup [strV (showQ q), VB (fitsQ q)]) := by
  refine TC.walk ⟨true, false⟩ _impl_rat__text_t rfl (Nat.le_of_ble_eq_true rfl) (by simp [pureL, ratV_pure]) rfl ?_
  have la := num_bl hk
  have lb := den_bl hk
  have t1 := impl_nat_text_v q.num.natAbs (capW (by omega))
  have t2 := impl_nat_text_v q.den (capW (by omega))
  have d1 := dec_bits q.num.natAbs
  have d2 := dec_bits q.den
  have a1 : pbin .add (.string ⟨#[45]⟩) (.string ⟨(decDigits q.num.natAbs).toArray⟩) = some (.string ⟨(45 :: decDigits q.num.natAbs).toArray⟩) := str_add [45] _ (by simp only [List.length_cons, List.length_nil]; omega)
  have a2 : pbin .add (.string ⟨#[47]⟩) (.string ⟨(decDigits q.den).toArray⟩) = some (.string ⟨(47 :: decDigits q.den).toArray⟩) := str_add [47] (decDigits q.den) (by simp only [List.length_cons, List.length_nil]; omega)
  have a3 := str_add (45 :: decDigits q.num.natAbs) (47 :: decDigits q.den) (by simp only [List.length_cons]; omega)
  have a4 := str_add (decDigits q.num.natAbs) (47 :: decDigits q.den) (by simp only [List.length_cons]; omega)
  have ne : pbin .neq (.string ⟨(decDigits q.den).toArray⟩) (.string ⟨#[49]⟩) = _ := str_neq (decDigits q.den) [49]
  have hf : fitsQ q = (decide (((decDigits q.num.natAbs).length : Int) ≤ 200) && decide (((decDigits q.den).length : Int) ≤ 200)) := by
    unfold fitsQ
    congr 1 <;> exact decide_eq_decide.2 (by omega)
  rw [hf]
  have hs : showQ q = (if q.num < 0 then (45 :: decDigits q.num.natAbs) else decDigits q.num.natAbs) ++ (if q.den = 1 then [] else 47 :: decDigits q.den) := by
    unfold showQ
    by_cases hn : q.num < 0
    · rw [if_pos hn, if_pos hn]; rfl
    · rw [if_neg hn, if_neg hn]; rfl
  rw [hs]
  by_cases hd : q.den = 1
  · rw [decide_eq_true (den_is_one.2 hd)] at ne
    rw [if_pos hd, List.append_nil]
    by_cases hn : q.num < 0 <;> by_cases hl : ((decDigits q.num.natAbs).length : Int) ≤ 200
    all_goals
      simp only [_impl_rat__text, _impl_rat__text_c, t1, t2, a1, a2, a3, a4, ne, hn, hl, slen_str, vcells_rat, rd_rat, rd_rat0, rd_rat1, rd_rat2, isAny_rat, vscal_nat, isAny_nat, vcells_nat, yA6, yA1, yA5, vlen_rdef, yA2, vchk_pdef, yA3, visnil_nil, yA4, vrow_zero, vrow_succ, List.set_cons_zero, List.set_cons_succ, elemOf_one, elemOf_two, vresult, vresAll, vres1, vfill, isAny_sc, isAny_tree, isAny_ref, isAny_agg, isAny_clo, List.take_zero, List.take_succ_cons, List.take_nil, List.drop_zero, List.drop_succ_cons, List.drop_nil, List.append_nil, Nat.reduceLeDiff, Nat.le_refl, vsplice, Nat.reduceLT, Int.toNat_natCast, eq_self, ge_iff_le, Bool.and_eq_true, Nat.reduceSub, VX, Nat.reduceEqDiff, Nat.reduceAdd]
      exact fz_res rfl
  · rw [decide_eq_false (mt den_is_one.1 hd)] at ne
    rw [if_neg hd]
    by_cases hn : q.num < 0 <;> by_cases hl : ((decDigits q.num.natAbs).length : Int) ≤ 200
    all_goals
      simp only [_impl_rat__text, _impl_rat__text_c, t1, t2, a1, a2, a3, a4, ne, hn, hl, slen_str, vcells_rat, rd_rat, rd_rat0, rd_rat1, rd_rat2, isAny_rat, vscal_nat, isAny_nat, vcells_nat, yA6, yA1, yA5, vlen_rdef, yA2, vchk_pdef, yA3, visnil_nil, yA4, vrow_zero, vrow_succ, List.set_cons_zero, List.set_cons_succ, elemOf_one, elemOf_two, vresult, vresAll, vres1, vfill, isAny_sc, isAny_tree, isAny_ref, isAny_agg, isAny_clo, List.take_zero, List.take_succ_cons, List.take_nil, List.drop_zero, List.drop_succ_cons, List.drop_nil, List.append_nil, Nat.reduceLeDiff, Nat.le_refl, vsplice, Nat.reduceLT, Int.toNat_natCast, eq_self, ge_iff_le, Bool.and_eq_true, Nat.reduceSub, VX, Nat.reduceEqDiff, Nat.reduceAdd]
      exact fz_res rfl
def toldQ (q : Rat) : VV := if fitsQ q = true then .tup [strV (showQ q), VB true] else .tup [strV [], VB false]
theorem toldQ_res (q : Rat) : resV (toldQ q) = true := by unfold toldQ; split <;> rfl
theorem impl_told_v (q : Rat) (hk : rbits q ≤ 1099511627776) : TC 92 [ratV q] (toldQ q) := by
  refine TC.walk ⟨true, false⟩ impl_told_t rfl (Nat.le_of_ble_eq_true rfl) (by simp [pureL, ratV_pure]) (toldQ_res q) ?_
  have t1 := impl_rat_text_v q hk
  unfold toldQ
  by_cases h : fitsQ q = true
  · rw [h] at t1
    rw [if_pos h]
    simp only [impl_told, impl_told_c, t1, vcells_rat, rd_rat, isAny_rat, vscal_nat, isAny_nat, vcells_nat, yA6, yA1, yA5, vlen_rdef, yA2, vchk_pdef, yA3, visnil_nil, yA4, vrow_zero, vrow_succ, List.set_cons_zero, List.set_cons_succ, elemOf_one, elemOf_two, vresult, vresAll, vres1, vfill, isAny_sc, isAny_tree, isAny_ref, isAny_agg, isAny_clo, List.take_zero, List.take_succ_cons, List.take_nil, List.drop_zero, List.drop_succ_cons, List.drop_nil, List.append_nil, Nat.reduceLeDiff, Nat.le_refl, vsplice, Nat.reduceLT, Int.toNat_natCast, eq_self, ge_iff_le, Bool.and_eq_true, Nat.reduceSub, VX, Nat.reduceEqDiff, Nat.reduceAdd]
    exact fz_res rfl
  · have h' : fitsQ q = false := by simpa using h
    rw [h'] at t1
    rw [if_neg h]
    simp only [impl_told, impl_told_c, t1, vcells_rat, rd_rat, isAny_rat, vscal_nat, isAny_nat, vcells_nat, yA6, yA1, yA5, vlen_rdef, yA2, vchk_pdef, yA3, visnil_nil, yA4, vrow_zero, vrow_succ, List.set_cons_zero, List.set_cons_succ, elemOf_one, elemOf_two, vresult, vresAll, vres1, vfill, isAny_sc, isAny_tree, isAny_ref, isAny_agg, isAny_clo, List.take_zero, List.take_succ_cons, List.take_nil, List.drop_zero, List.drop_succ_cons, List.drop_nil, List.append_nil, Nat.reduceLeDiff, Nat.le_refl, vsplice, Nat.reduceLT, Int.toNat_natCast, eq_self, ge_iff_le, Bool.and_eq_true, Nat.reduceSub, VX, Nat.reduceEqDiff, Nat.reduceAdd]
    exact fz_res rfl
end Go.PM
/- Texts of fractions, read: plain words. -/
namespace Go.PM
open Go.Lib
def isDig (c : UInt8) : Bool := decide (48 ≤ c.toNat) && decide (c.toNat ≤ 57)
def dv (c : UInt8) : Nat := c.toNat - 48
def decF (a : Nat) (l : List UInt8) : Nat := l.foldl (fun a c => a * 10 + dv c) a
def decV (l : List UInt8) : Nat := decF 0 l
theorem decF_eq (l : List UInt8) : ∀ a, decF a l = a * 10 ^ l.length + decV l := by
  induction l with
  | nil => intro a; simp [decF, decV]
  | cons c l ih =>
    intro a
    have h1 : decF a (c :: l) = decF (a * 10 + dv c) l := rfl
    have h2 : decV (c :: l) = decF (0 * 10 + dv c) l := rfl
    rw [h1, h2, ih, ih (0 * 10 + dv c), List.length_cons, Nat.pow_succ]
    grind
theorem decV_app (a b : List UInt8) : decV (a ++ b) = decV a * 10 ^ b.length + decV b := by
  have : decV (a ++ b) = decF (decV a) b := by unfold decV decF; rw [List.foldl_append]
  rw [this, decF_eq]
theorem decV_snoc (a : List UInt8) (c : UInt8) : decV (a ++ [c]) = decV a * 10 + dv c := by
  rw [decV_app]
  simp [decV, decF]
theorem dv_lt {c : UInt8} (h : isDig c = true) : dv c < 10 := by
  simp only [isDig, Bool.and_eq_true, decide_eq_true_eq] at h
  unfold dv
  omega
theorem decV_lt : ∀ {l : List UInt8}, l.all isDig = true → decV l < 10 ^ l.length := by
  intro l
  induction l with
  | nil => intro _; decide
  | cons c l ih =>
    intro h
    rw [List.all_cons, Bool.and_eq_true] at h
    have h1 := dv_lt h.1
    have h2 := ih h.2
    have h3 : decV (c :: l) = decF (0 * 10 + dv c) l := rfl
    rw [h3, decF_eq, List.length_cons, Nat.pow_succ]
    have h4 : (0 * 10 + dv c) * 10 ^ l.length ≤ 9 * 10 ^ l.length := Nat.mul_le_mul_right _ (by omega)
    omega
theorem parseM {M : Nat} (hM : 1000000000000000000 ≤ M) : ∀ (l : List UInt8) (k acc : Nat), l.all isDig = true → acc < 10 ^ k → k + l.length ≤ 18 → parseUintM M acc l = .ok (decF acc l) := by
  intro l
  induction l with
  | nil => intro k acc _ _ _; rfl
  | cons c l ih =>
    intro k acc h hk hl
    rw [List.all_cons, Bool.and_eq_true] at h
    have h1 := dv_lt h.1
    have h0 := h.1
    simp only [isDig, Bool.and_eq_true, decide_eq_true_eq] at h0
    rw [List.length_cons] at hl
    have h18 : acc < 10 ^ 17 := Nat.lt_of_lt_of_le hk (Nat.pow_le_pow_right (by decide) (by omega))
    have e17 : (10 : Nat) ^ 17 = 100000000000000000 := by decide
    rw [e17] at h18
    have hd : c.toNat - 48 = dv c := rfl
    rw [parseUintM, if_pos h0, if_neg (by omega), hd, if_neg (by omega), ih (k + 1) _ h.2 (by rw [Nat.pow_succ]; omega) (by omega)]
    rfl
theorem parseB {l : List UInt8} (h : l.all isDig = true) (h0 : l ≠ []) (hl : l.length ≤ 18) : parseUintB 64 l = .ok (decV l) := by
  unfold parseUintB
  rw [if_neg h0]
  exact parseM (by decide) l 0 0 h (by decide) (by omega)
def natOk (l : List UInt8) : Bool := l.all isDig && decide (1 ≤ l.length) && decide (l.length ≤ 200) && (decide (l.length = 1) || !decide (l.getD 0 0 = 48))
theorem natOk_iff {l : List UInt8} : natOk l = true ↔ l.all isDig = true ∧ 1 ≤ l.length ∧ l.length ≤ 200 ∧ (l.length = 1 ∨ l.getD 0 0 ≠ 48) := by
  unfold natOk
  simp only [Bool.and_eq_true, Bool.or_eq_true, Bool.not_eq_true', decide_eq_true_eq, decide_eq_false_iff_not, ne_eq, and_assoc]
theorem d10_nat {n : Nat} (h : n < 10) : (d10 n).toNat = 48 + n := by
  unfold d10
  rw [UInt8.toNat_ofNat']
  exact Nat.mod_eq_of_lt (by omega)
theorem dv_d10 {n : Nat} (h : n < 10) : dv (d10 n) = n := by
  unfold dv
  rw [d10_nat h]
  omega
theorem isDig_d10 {n : Nat} (h : n < 10) : isDig (d10 n) = true := by
  unfold isDig
  rw [d10_nat h, decide_eq_true (by omega), decide_eq_true (by omega)]
  rfl
theorem dec_all : ∀ (k n : Nat), n ≤ k → (decDigits n).all isDig = true ∧ decV (decDigits n) = n ∧ (n = 0 ∨ (decDigits n).getD 0 0 ≠ 48) := by
  intro k
  induction k with
  | zero =>
    intro n hn
    have : n = 0 := by omega
    subst this
    rw [dec_small (by decide)]
    exact ⟨by decide, by decide, .inl rfl⟩
  | succ k ih =>
    intro n hn
    by_cases h : n < 10
    · rw [dec_small h]
      refine ⟨by rw [List.all_cons, isDig_d10 h]; rfl, ?_, ?_⟩
      · have : decV [d10 n] = 0 * 10 + dv (d10 n) := rfl
        rw [this, dv_d10 h]
        omega
      · by_cases h0 : n = 0
        · exact .inl h0
        · right
          intro he
          have he' : d10 n = 48 := he
          have := congrArg UInt8.toNat he'
          rw [d10_nat h] at this
          have h48 : (48 : UInt8).toNat = 48 := rfl
          omega
    · obtain ⟨h1, h2, h3⟩ := ih (n / 10) (by omega)
      have hm : n % 10 < 10 := Nat.mod_lt _ (by decide)
      rw [dec_big h]
      refine ⟨by rw [List.all_append, h1, List.all_cons, isDig_d10 hm]; rfl, ?_, ?_⟩
      · rw [decV_snoc, h2, dv_d10 hm]
        omega
      · right
        have hne := dec_ne (n / 10)
        rcases h3 with h3 | h3
        · omega
        · intro he
          apply h3
          rw [← he]
          cases hd : decDigits (n / 10) with
          | nil => exact absurd hd hne
          | cons a b => rfl
theorem decV_dec (n : Nat) : decV (decDigits n) = n := (dec_all n n (Nat.le_refl _)).2.1
theorem natOk_dec {n : Nat} (h : (decDigits n).length ≤ 200) : natOk (decDigits n) = true := by
  obtain ⟨h1, _, h3⟩ := dec_all n n (Nat.le_refl _)
  have h4 := List.length_pos_iff.2 (dec_ne n)
  refine natOk_iff.2 ⟨h1, h4, h, ?_⟩
  rcases h3 with rfl | h3
  · left; rw [dec_small (by decide)]; rfl
  · exact .inr h3
theorem natOk_bl {l : List UInt8} (h : natOk l = true) : bl (decV l) ≤ 665 := by
  obtain ⟨h1, h2, h3, _⟩ := natOk_iff.1 h
  refine bl_le (Nat.lt_of_lt_of_le (decV_lt h1) ?_)
  exact Nat.le_trans (Nat.pow_le_pow_right (by decide) h3) (by decide +kernel)
def cutB (c : UInt8) : List UInt8 → List UInt8 × Option (List UInt8)
  | [] => ([], none)
  | x :: r => if x = c then ([], some r) else (x :: (cutB c r).1, (cutB c r).2)
theorem cutB_none {c : UInt8} : ∀ {l : List UInt8}, (cutB c l).2 = none → indexByte l c = -1 ∧ (cutB c l).1 = l ∧ c ∉ l := by
  intro l
  induction l with
  | nil => intro _; exact ⟨rfl, rfl, by simp⟩
  | cons x l ih =>
    intro h
    unfold cutB at h ⊢
    by_cases hx : x = c
    · rw [if_pos hx] at h
      cases h
    · rw [if_neg hx] at h ⊢
      obtain ⟨h1, h2, h3⟩ := ih h
      refine ⟨?_, by rw [h2], ?_⟩
      · rw [indexByte, if_neg (by simpa using hx), h1]
        rfl
      · rw [List.mem_cons, not_or]
        exact ⟨fun h => hx h.symm, h3⟩
theorem cutB_some {c : UInt8} : ∀ {l r : List UInt8}, (cutB c l).2 = some r → indexByte l c = ((cutB c l).1.length : Int) ∧ l = (cutB c l).1 ++ c :: r ∧ c ∉ (cutB c l).1 := by
  intro l
  induction l with
  | nil => intro r h; cases h
  | cons x l ih =>
    intro r h
    unfold cutB at h ⊢
    by_cases hx : x = c
    · rw [if_pos hx] at h ⊢
      cases h
      subst hx
      refine ⟨?_, rfl, by simp⟩
      rw [indexByte, if_pos (by simp)]
      rfl
    · rw [if_neg hx] at h ⊢
      obtain ⟨h1, h2, h3⟩ := ih h
      refine ⟨?_, ?_, ?_⟩
      · rw [indexByte, if_neg (by simpa using hx), h1, if_neg]
        · simp
        · simp
      · conv => lhs; rw [h2]
        rfl
      · rw [List.mem_cons, not_or]
        exact ⟨fun h => hx h.symm, h3⟩
def parseA (neg : Bool) (d : List UInt8) (s : Option (List UInt8)) : Option Rat :=
  if natOk d = false ∨ (neg = true ∧ decV d = 0) then none else
  match s with
  | none => some (mkRat (sgn neg (decV d)) 1)
  | some t => if natOk t = true ∧ 1 < decV t ∧ Nat.gcd (decV d) (decV t) = 1 then some (mkRat (sgn neg (decV d)) (decV t)) else none
def isNeg (l : List UInt8) : Bool := decide (1 ≤ l.length) && decide (l.getD 0 0 = 45)
def parseQ (l : List UInt8) : Option Rat := parseA (isNeg l) ((cutB 47 (if isNeg l then l.drop 1 else l)).1) ((cutB 47 (if isNeg l then l.drop 1 else l)).2)
theorem parseA_num {neg : Bool} {d : List UInt8} {s : Option (List UInt8)} {q : Rat} (h : parseA neg d s = some q) : natOk d = true ∧ ¬ (neg = true ∧ decV d = 0) ∧ ((s = none ∧ q = mkRat (sgn neg (decV d)) 1) ∨ ∃ t, s = some t ∧ natOk t = true ∧ 1 < decV t ∧ Nat.gcd (decV d) (decV t) = 1 ∧ q = mkRat (sgn neg (decV d)) (decV t)) := by
  unfold parseA at h
  split at h
  · cases h
  · rename_i hc
    rw [not_or] at hc
    refine ⟨by simpa using hc.1, hc.2, ?_⟩
    split at h
    · exact .inl ⟨rfl, (Option.some.inj h).symm⟩
    · rename_i t
      split at h
      · rename_i ht
        exact .inr ⟨t, rfl, ht.1, ht.2.1, ht.2.2, (Option.some.inj h).symm⟩
      · cases h
theorem parseA_bits {neg : Bool} {d : List UInt8} {s : Option (List UInt8)} {q : Rat} (h : parseA neg d s = some q) : rbits q ≤ 665 := by
  obtain ⟨h1, _, h3⟩ := parseA_num h
  have hb := natOk_bl h1
  rcases h3 with ⟨_, rfl⟩ | ⟨t, _, h4, h5, _, rfl⟩
  · exact rbits_mk (by rw [sgn_abs]; exact hb) (bl_le (by decide +kernel)) (by decide)
  · exact rbits_mk (by rw [sgn_abs]; exact hb) (natOk_bl h4) (by omega)
theorem parse_bits {l : List UInt8} {q : Rat} (h : parseQ l = some q) : rbits q ≤ 665 := parseA_bits h
theorem mkRat_parts {neg : Bool} {t b : Nat} (hb : b ≠ 0) (hg : Nat.gcd t b = 1) : (mkRat (sgn neg t) b).num = sgn neg t ∧ (mkRat (sgn neg t) b).den = b := by
  rw [mk_num hb, mk_den hb, hg, Nat.div_one, Nat.div_one]
  exact ⟨rfl, rfl⟩
theorem isNeg_cons {c : UInt8} {l : List UInt8} : isNeg (c :: l) = decide (c = 45) := by simp [isNeg]
theorem cutB_app {c : UInt8} {a r : List UInt8} (h : c ∉ a) : cutB c (a ++ c :: r) = (a, some r) := by
  induction a with
  | nil => rw [List.nil_append, cutB, if_pos rfl]
  | cons x a ih =>
    rw [List.mem_cons, not_or] at h
    rw [List.cons_append, cutB, if_neg (fun he => h.1 he.symm), ih h.2]
theorem cutB_all {c : UInt8} {a : List UInt8} (h : c ∉ a) : cutB c a = (a, none) := by
  induction a with
  | nil => rfl
  | cons x a ih =>
    rw [List.mem_cons, not_or] at h
    rw [cutB, if_neg (fun he => h.1 he.symm), ih h.2]
theorem dig_no47 {l : List UInt8} (h : l.all isDig = true) : (47 : UInt8) ∉ l := by
  intro hm
  have := List.all_eq_true.1 h _ hm
  exact absurd this (by decide)
theorem parse_show {q : Rat} (h : fitsQ q = true) : parseQ (showQ q) = some q := by
  unfold fitsQ at h
  simp only [Bool.and_eq_true, decide_eq_true_eq] at h
  obtain ⟨f1, f2⟩ := h
  have hd0 := q.den_nz
  obtain ⟨d1, d2, d3⟩ := dec_all q.num.natAbs q.num.natAbs (Nat.le_refl _)
  have hne := dec_ne q.num.natAbs
  have hz : sgn (decide (q.num < 0)) q.num.natAbs = q.num := by
    unfold sgn
    by_cases hn : q.num < 0
    · rw [decide_eq_true hn, if_pos rfl]; omega
    · rw [decide_eq_false hn, if_neg (by decide)]; omega
  have hq : mkRat q.num q.den = q := Rat.mkRat_self q
  have hi : ∀ r, isNeg (decDigits q.num.natAbs ++ r) = false := by
    intro r
    cases hd : decDigits q.num.natAbs with
    | nil => exact absurd hd hne
    | cons c l =>
      rw [hd, List.all_cons, Bool.and_eq_true] at d1
      rw [List.cons_append, isNeg_cons, decide_eq_false]
      intro h
      rw [h] at d1
      exact absurd d1.1 (by decide)
  have body : ∀ (neg : Bool), neg = decide (q.num < 0) → parseA neg ((cutB 47 (decDigits q.num.natAbs ++ if q.den = 1 then [] else 47 :: decDigits q.den)).1) ((cutB 47 (decDigits q.num.natAbs ++ if q.den = 1 then [] else 47 :: decDigits q.den)).2) = some q := by
    intro neg hn
    by_cases h1 : q.den = 1
    · rw [if_pos h1, List.append_nil, cutB_all (dig_no47 d1)]
      unfold parseA
      simp only
      rw [decV_dec, natOk_dec f1, if_neg, hn, hz, ← h1, hq]
      rintro (h | ⟨h2, h3⟩)
      · cases h
      · rw [hn, decide_eq_true_eq] at h2
        omega
    · rw [if_neg h1, cutB_app (dig_no47 d1)]
      unfold parseA
      simp only
      rw [decV_dec, decV_dec, natOk_dec f1, natOk_dec f2, if_neg, if_pos ⟨rfl, by omega, q.reduced⟩, hn, hz, hq]
      rintro (h | ⟨h2, h3⟩)
      · cases h
      · rw [hn, decide_eq_true_eq] at h2
        omega
  unfold parseQ showQ
  by_cases hn : q.num < 0
  · rw [if_pos hn, List.append_assoc, List.singleton_append, isNeg_cons, decide_eq_true rfl]
    exact body true (decide_eq_true hn).symm
  · rw [if_neg hn, List.nil_append, hi]
    exact body false (decide_eq_false hn).symm
end Go.PM
