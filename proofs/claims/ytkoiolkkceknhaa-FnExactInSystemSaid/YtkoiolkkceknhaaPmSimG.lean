/- The pure machine's operations that write; then every operation. -/
import Derived.Test.YtkoiolkkceknhaaPmSimF
namespace Go.PM

section
variable {P : Program} {m : PMap} {L0 : Nat} {H : Heap} {w : World}

theorem step_store {t : TypeId} {i : TypeInfo} {lo b o : Nat} {v r rp : Value} {H' : Heap} (hi : P.info? t = some i) (hp : RV m (.pointer (some ⟨b, o, none⟩)) rp) (hv : RV m v r) (hs : (pcells v).length = i.size)
    (hw : H.write lo b o (pcells v) = some H') (hR : Rel m L0 H w) (hlo : L0 ≤ lo) :
    StepSim P (do Instr.storeAt t rp r; pure .skip) L0 lo m H w undef H' := by
  cases hp with
  | ptr _ _ l hm =>
    obtain ⟨w', s1, s2, s3⟩ := write_rel P hR hlo hm hw hv.pcells
    refine ⟨undef, w', m, .inr ⟨?_, rfl⟩, RV.undef m, s2, s3⟩
    have hsz : r.cells.size = i.size := by rw [pcells_size, ← hv.pcells.1, hs]
    have h1 : (Instr.storeAt t (.pointer (some ⟨l.rb, l.base + o, none⟩)) r).run P w = .ok () w' := by
      show (storeVar t ⟨l.rb, l.base + o, none⟩ r).run P w = _
      unfold storeVar
      simp only [Sem.run_bind, run_sizeOf t i hi, Result.andThen_ok, hsz, ne_eq, not_true_eq_false, if_false, pcells_toList]
      exact s1
    rw [Sem.run_bind, h1]
    rfl

theorem lenOf_rel {pv rv : Value} {k : Nat} (h : plenOf pv = some k) (hr : RV m pv rv) : Builtin.lenOf rv = pure k := by
  unfold plenOf at h
  split at h
  · cases h; cases hr <;> rfl
  · cases h; cases hr; rfl
  · cases h

theorem getD_append_arr (a b : Array Value) (xs : List Value) (h : a.toList = xs) (i : Nat) (hi : i < xs.length) : (a ++ b).getD i undef = xs.getD i undef := by
  subst h
  have : i < a.size := by simpa using hi
  simp [Array.getD_eq_getD_getElem?, Array.getElem?_append_left this, List.getD_eq_getElem?_getD]

theorem step_app {t u ty : TypeId} {agg : Bool} {size bytes lo k : Nat} {z : List Value} {d : TypeDesc} {x y rx ry v : Value} {new : List Value} {H' : Heap} (ht : elemInfo P t = some (agg, size, z, bytes)) (hu : P.underlying u = some d) (hd : isAppD d = true)
    (hk : plenOf y = some k) (hsrc : psource H size k y = some new) (hap : pappend lo size bytes x k new H = some (v, H')) (hx : RV m x rx) (hy : RV m y ry) (hzs : size = z.length)
    (hR : Rel m L0 H w) (hlo : L0 ≤ lo) (hf : ∀ b, H.length ≤ b → b < H'.length → m b = none) :
    StepSim P (do pure (.value (← Builtin.append_ #[t, u] ty #[rx, ry]))) L0 lo m H w v H' := by
  obtain ⟨e, hte, htie⟩ := elemInfo_spec ht
  obtain ⟨i, de, zz, hi, _, hzz, rfl, rfl, rfl, rfl⟩ := tinfo_spec htie
  obtain ⟨rnew, h1, h2, h3⟩ := psource_rel hsrc hk (Nat.le_refl _) hR hy
  have hl := lenOf_rel hk hy
  have hb1 : 1 ≤ i.bytes := by
    unfold pappend at hap
    split at hap
    · rename_i h; exact h.1
    · cases hap
  have hnl : new.length = k * i.size := by
    unfold pappend at hap
    split at hap
    · rename_i h; exact h.2.2.2
    · cases hap
  obtain ⟨rv, w', m', g1, g2, g3, g4⟩ := pappend_rel (P := P) (s := Builtin.append_ #[t, u] ty #[rx, ry]) (e := e) hap hR hlo hx h1 hf
    (fun a n c w' hrx hroom hst => by
      subst hrx
      exact run_app_room hte hu hd hi hl (h3 w rfl) hroom hst)
    (fun hrx hk0 => by
      subst hrx
      subst hk0
      exact run_app_nil hte hu hd hi hl (h3 w rfl))
    (fun base n c olds hrx hfo hol hg hb => by
      subst hrx
      refine ⟨grownCap w (n + k) c e, _, grownCap_ge w _ _ _, run_app_grow hte hu hd hi hzz hl hfo (h3 w.drew rfl) hg hb1 hb, ?_, ?_⟩
      · have hge := grownCap_ge w (n + k) c e
        have hrl : rnew.length = k * i.size := by rw [← h1.1, hnl]
        simp only [Array.size_append, List.size_toArray, size_zeroCells, hol, hrl]
        rw [← pcells_size] at hzs
        rw [← hzs, ← Nat.add_mul, ← Nat.add_mul]
        congr 1
        omega
      · intro j hj
        exact getD_append_arr _ _ _ (by simp) j hj)
  exact StepSim.value g1 g2 g3 g4

section
variable {t u ty e : TypeId} {ku : IntKind} {i : TypeInfo} {zz : Value} {k : Nat}

theorem wrap_nat {k : Nat} (h : k ≤ 140737488355328) : IntKind.i64.wrap (k : Int) = (k : Int) := by rw [IntKind.wrap_i64]; omega

theorem run_appz_room (ht : P.underlying t = some (.slice e)) (hu : P.underlying u = some (.int ku)) (hi : P.info? e = some i) (hzz : i.zero = some zz) (hk : k ≤ 140737488355328) (hkb : k * i.bytes ≤ 140737488355328)
    {a : Addr} {n c : Nat} {w' : World} (hroom : n + k ≤ c) (hz : k * i.size = 0 → Builtin.zeroCells zz.cells k = #[]) (hst : (storeCells (a.add (n * i.size)) (Builtin.zeroCells zz.cells k).toList).run P w = .ok () w') :
    (Builtin.append_ #[t, u] ty #[.slice (some a) n c, .int .i64 k]).run P w = .ok (.slice (some a) (n + k) c) w' := by
  have h0 : ¬ ((k : Int) < 0) := by omega
  have hb : ¬ (281474976710656 < (k : Int) * (i.bytes : Int)) := by rw [← Int.natCast_mul]; omega
  by_cases hz0 : k * i.size = 0
  · rw [hz hz0] at hst
    simp [Builtin.append_, run_underlying ht, run_underlying hu, run_sizeOf e i hi, asInt, asIntOf, wrap_nat hk, typeInfo, hi, h0, hb, hroom, hz0, hst]
  · simp [Builtin.append_, run_underlying ht, run_underlying hu, run_sizeOf e i hi, asInt, asIntOf, wrap_nat hk, typeInfo, hi, h0, hb, hroom, hz0, zeroValue, hzz, hst]

theorem run_appz_nil (ht : P.underlying t = some (.slice e)) (hu : P.underlying u = some (.int ku)) (hi : P.info? e = some i) :
    (Builtin.append_ #[t, u] ty #[.slice none 0 0, .int .i64 (0 : Nat)]).run P w = .ok (.slice none 0 0) w := by
  have hw : IntKind.i64.wrap 0 = 0 := rfl
  simp [Builtin.append_, run_underlying ht, run_underlying hu, run_sizeOf e i hi, asInt, asIntOf, hw, typeInfo, hi]

theorem run_appz_grow (ht : P.underlying t = some (.slice e)) (hu : P.underlying u = some (.int ku)) (hi : P.info? e = some i) (hzz : i.zero = some zz) (hk : k ≤ 140737488355328) (hkb : k * i.bytes ≤ 140737488355328)
    {base : Option Addr} {n c : Nat} {olds : List Value} (hfo : (Builtin.firstCells i.size n (.slice base n c)).run P w.drew = .ok olds.toArray w.drew) (hz : k * i.size = 0 → Builtin.zeroCells zz.cells k = #[])
    (hg : c < n + k) (hb1 : 1 ≤ i.bytes) (hbb : (n + k) * i.bytes ≤ 140737488355328) :
    (Builtin.append_ #[t, u] ty #[.slice base n c, .int .i64 k]).run P w = .ok (.slice (some ⟨w.heap.size, 0, none⟩) (n + k) (grownCap w (n + k) c e))
      (w.drew.alloc (.cells (olds.toArray ++ Builtin.zeroCells zz.cells k ++ Builtin.zeroCells zz.cells (grownCap w (n + k) c e - (n + k))) e)) := by
  have hfit := growslice_fits (bytes := i.bytes) hg hbb
  have h0 : ¬ ((k : Int) < 0) := by omega
  have hb : ¬ (281474976710656 < (k : Int) * (i.bytes : Int)) := by rw [← Int.natCast_mul]; omega
  have h1 : ¬ (n + k ≤ c) := by omega
  have h2 : ¬ (281474976710656 < Builtin.nextslicecap (n + k) c * i.bytes) := by omega
  have h4 : n + k ≤ 140737488355328 := Nat.le_trans (Nat.le_mul_of_pos_right _ hb1) hbb
  have h3 : ¬ (9223372036854775807 < (n : Int) + (k : Int)) := by omega
  by_cases hz0 : k * i.size = 0
  · have e0 := hz hz0
    simp [Builtin.append_, run_underlying ht, run_underlying hu, run_sizeOf e i hi, asInt, asIntOf, wrap_nat hk, typeInfo, hi, h0, hb, h1, h2, h3, e0, zeroValue, hzz, Question.forced, hfo, newRow, grownCap]
  · simp [Builtin.append_, run_underlying ht, run_underlying hu, run_sizeOf e i hi, asInt, asIntOf, wrap_nat hk, typeInfo, hi, h0, hb, h1, h2, h3, hz0, zeroValue, hzz, Question.forced, hfo, newRow, grownCap]
end

theorem step_appz {t u ty : TypeId} {agg : Bool} {size bytes lo : Nat} {z : List Value} {ku : IntKind} {n : Int} {x rx v : Value} {H' : Heap} (ht : elemInfo P t = some (agg, size, z, bytes)) (hu : P.underlying u = some (.int ku))
    (hn : 0 ≤ n ∧ n * bytes ≤ 140737488355328) (hap : pappend lo z.length bytes x n.toNat (zcells n.toNat z) H = some (v, H')) (hx : RV m x rx) (hzs : size = z.length) (hz1 : z.all scal = true) (hz2 : z.all constOk = true) (hz0 : 1 ≤ z.length)
    (hR : Rel m L0 H w) (hlo : L0 ≤ lo) (hf : ∀ b, H.length ≤ b → b < H'.length → m b = none) :
    StepSim P (do pure (.value (← Builtin.append_ #[t, u] ty #[rx, .int .i64 n]))) L0 lo m H w v H' := by
  obtain ⟨e, hte, htie⟩ := elemInfo_spec ht
  obtain ⟨i, de, zz, hi, _, hzz, rfl, rfl, rfl, rfl⟩ := tinfo_spec htie
  obtain ⟨k, rfl⟩ := Int.eq_ofNat_of_zero_le hn.1
  simp only [Int.toNat_natCast] at hap
  have hb1 : 1 ≤ i.bytes := by
    unfold pappend at hap
    split at hap
    · rename_i h; exact h.1
    · cases hap
  have hkb : k * i.bytes ≤ 140737488355328 := by have := hn.2; omega
  have hk : k ≤ 140737488355328 := Nat.le_trans (Nat.le_mul_of_pos_right _ hb1) hkb
  have hsz : i.size = zz.cells.size := by rw [hzs, pcells_size]
  have hz0' : 1 ≤ zz.cells.size := by rw [pcells_size]; exact hz0
  have hnew : (Builtin.zeroCells zz.cells k).toList = zcells k (pcells zz) := by rw [zeroCells_eq _ _ hz0', pcells_toList]
  have hzz0 : k * i.size = 0 → Builtin.zeroCells zz.cells k = #[] := by
    intro h0
    apply Array.ext'
    rw [hnew]
    exact List.eq_nil_of_length_eq_zero (by rw [zcells_length, ← hzs]; exact h0)
  obtain ⟨rv, w', m', g1, g2, g3, g4⟩ := pappend_rel (P := P) (s := Builtin.append_ #[t, u] ty #[rx, .int .i64 k]) (e := e) (rnew := zcells k (pcells zz)) hap hR hlo hx (zcells_const k hz2 hz0) hf
    (fun a n c w' hrx hroom hst => by
      subst hrx
      exact run_appz_room hte hu hi hzz hk hkb hroom hzz0 (by rw [hnew, hzs]; exact hst))
    (fun hrx hk0 => by
      subst hrx
      subst hk0
      exact run_appz_nil hte hu hi)
    (fun base n c olds hrx hfo hol hg hb => by
      subst hrx
      refine ⟨grownCap w (n + k) c e, _, grownCap_ge w _ _ _, run_appz_grow hte hu hi hzz hk hkb (by rw [hzs]; exact hfo) hzz0 hg hb1 hb, ?_, ?_⟩
      · have hge := grownCap_ge w (n + k) c e
        simp only [Array.size_append, List.size_toArray, size_zeroCells, hol, pcells_size]
        rw [← Nat.add_mul, ← Nat.add_mul]
        congr 1
        omega
      · intro j hj
        exact getD_append_arr _ _ _ (by simp [hnew]) j hj)
  exact StepSim.value g1 g2 g3 g4

theorem step_copy {t ty : TypeId} {ts : List TypeId} {agg : Bool} {size bytes lo b o d c k : Nat} {z new : List Value} {y rx ry : Value} {H' : Heap} (ht : elemInfo P t = some (agg, size, z, bytes))
    (hk : plenOf y = some k) (hsrc : psource H size (Nat.min k d) y = some new) (hw : H.write lo b o new = some H') (hx : RV m (.slice (some ⟨b, o, none⟩) d c) rx) (hy : RV m y ry)
    (hR : Rel m L0 H w) (hlo : L0 ≤ lo) :
    StepSim P (do pure (.value (← Builtin.copy_ (t :: ts).toArray ty #[rx, ry]))) L0 lo m H w (.int .i64 (Nat.min k d)) H' := by
  obtain ⟨e, hte, htie⟩ := elemInfo_spec ht
  obtain ⟨i, de, zz, hi, _, hzz, rfl, rfl, rfl, rfl⟩ := tinfo_spec htie
  obtain ⟨rnew, h1, h2, h3⟩ := psource_rel (P := P) hsrc hk (Nat.min_le_left _ _) hR hy
  have hl := lenOf_rel hk hy
  cases hx with
  | slice _ _ _ _ l ra rc hm hn hc hxp ha =>
    rcases ha with ha | ⟨rfl, ha⟩
    · have hd0 : d = 0 := by omega
      subst hd0
      have hmin : Nat.min k 0 = 0 := Nat.min_zero k
      rw [hmin] at hsrc h3 ⊢
      have hnew : new = [] := by
        have : rnew.length = new.length := h1.1.symm
        unfold psource at hsrc
        split at hsrc
        · obtain ⟨_, _, _, _, _, _, hlen⟩ := read_spec hsrc
          exact List.eq_nil_of_length_eq_zero (by simpa using hlen)
        · split at hsrc
          · cases hsrc; rfl
          · cases hsrc
        · split at hsrc
          · cases hsrc; simp
          · cases hsrc
        · cases hsrc
      subst hnew
      have hrn : rnew = [] := List.eq_nil_of_length_eq_zero h1.1.symm
      subst hrn
      have hHH : H' = H := by
        obtain ⟨cs, e', p', q1, q2, q3, q4, rfl⟩ := write_spec hw
        apply List.ext_getElem?
        intro j
        by_cases hj : b = j
        · subst hj
          rw [List.getElem?_set_self (List.getElem?_eq_some_iff.1 q1).1, q1]
          simp [splice]
        · rw [List.getElem?_set_ne hj]
      rw [hHH]
      refine StepSim.value (rv := .int .i64 0) (w' := w) ?_ (.int _ _) hR (Trans.refl lo m _ w)
      have hf0 := h3 w rfl
      simp [Builtin.copy_, run_underlying hte, hl, run_sizeOf e i hi, goInt, hf0, storeCells]
    · obtain ⟨w', s1, s2, s3⟩ := write_rel P hR hlo hm hw h1
      refine StepSim.value (rv := .int .i64 (Nat.min k d)) ?_ (.int _ _) s2 s3
      have hf0 := h3 w rfl
      unfold Builtin.copy_
      simp only [List.getElem?_toArray, List.getElem?_cons_zero, List.getElem?_cons_succ, Sem.run_bind, run_underlying hte, Result.andThen_ok, hl, Sem.run_pure, run_sizeOf e i hi]
      rw [hf0]
      simp only [Result.andThen_ok, s1, goInt]

theorem step_clear {t ty e : TypeId} {ts : List TypeId} {i : TypeInfo} {zz : Value} {lo b o n c : Nat} {rx : Value} {H' : Heap} (hte : P.underlying t = some (.slice e)) (hi : P.info? e = some i) (hzz : i.zero = some zz)
    (hn0 : n ≠ 0) (hw : H.write lo b o (zcells n (pcells zz)) = some H') (hx : RV m (.slice (some ⟨b, o, none⟩) n c) rx) (hz2 : (pcells zz).all constOk = true) (hz0 : 1 ≤ (pcells zz).length) (hR : Rel m L0 H w) (hlo : L0 ≤ lo) :
    StepSim P (do pure (.value (← Builtin.clear_ (t :: ts).toArray ty #[rx]))) L0 lo m H w undef H' := by
  cases hx with
  | slice _ _ _ _ l ra rc hm hn hc hxp ha =>
    rcases ha with ha | ⟨rfl, ha⟩
    · omega
    · obtain ⟨w', s1, s2, s3⟩ := write_rel P hR hlo hm hw (zcells_const n hz2 hz0)
      have hnew : (Builtin.zeroCells zz.cells n).toList = zcells n (pcells zz) := by rw [zeroCells_eq _ _ (by rw [pcells_size]; exact hz0), pcells_toList]
      refine StepSim.value (rv := undef) ?_ (RV.undef m) s2 s3
      rw [← hnew] at s1
      obtain ⟨n', rfl⟩ : ∃ n', n = n' + 1 := ⟨n - 1, by omega⟩
      simp [Builtin.clear_, run_underlying hte, zeroValue, typeInfo, hi, hzz, s1, undef]

theorem step_clear0 {t ty e : TypeId} {ts : List TypeId} {lo c : Nat} {a : Option Addr} {rx : Value} (hte : P.underlying t = some (.slice e)) (hx : RV m (.slice a 0 c) rx) (hR : Rel m L0 H w) :
    StepSim P (do pure (.value (← Builtin.clear_ (t :: ts).toArray ty #[rx]))) L0 lo m H w undef H := by
  refine StepSim.value (rv := undef) (w' := w) ?_ (RV.undef m) hR (Trans.refl lo m _ w)
  cases hx <;> simp [Builtin.clear_, run_underlying hte, undef]

end
end Go.PM
