/- Texts of a claim, in one: part 2. -/
import Derived.LoopN
import Derived.Test.YtbgfeiagaieljaaGreatDoorKFa
/- The pure machine's operations on the heap, one by one; then all of them. -/
set_option linter.unusedSimpArgs false
set_option linter.unusedVariables false
namespace Go.PM
section
variable {P : Program} {m : PMap} {L0 : Nat} {H : Heap} {w : World}
theorem RL.const {zs : List Value} (h : zs.all constOk = true) : RL m zs zs :=
  ⟨rfl, fun j hj => by
    have := RV.const (m := m) (List.all_eq_true.1 h _ (List.getElem_mem hj))
    simpa [List.getD_eq_getElem?_getD, List.getElem?_eq_getElem hj] using this⟩
theorem zcells_length (n : Nat) (zs : List Value) : (zcells n zs).length = n * zs.length := by simp [zcells]
theorem zcells_const (n : Nat) {zs : List Value} (h : zs.all constOk = true) (h0 : 1 ≤ zs.length) : RL m (zcells n zs) (zcells n zs) := by
  refine ⟨rfl, fun i hi => ?_⟩
  rw [zcells_length] at hi
  have hlt : i % zs.length < zs.length := Nat.mod_lt _ h0
  have e : (zcells n zs).getD i undef = zs.getD (i % zs.length) undef := by simp [zcells, List.getD_eq_getElem?_getD, hi]
  rw [e]
  exact (RL.const h).2 _ hlt
theorem zcells_scal (n : Nat) {zs : List Value} (h : zs.all scal = true) (h0 : 1 ≤ zs.length) : (zcells n zs).all scal = true := by
  rw [List.all_eq_true]
  intro x hx
  obtain ⟨i, _, rfl⟩ := List.mem_map.1 hx
  have hlt : i % zs.length < zs.length := Nat.mod_lt _ h0
  have := List.all_eq_true.1 h _ (List.getElem_mem hlt)
  simpa [List.getD_eq_getElem?_getD, List.getElem?_eq_getElem hlt] using this
theorem made_zcells (z : Array Value) (n : Nat) (h0 : 1 ≤ z.size) : (madeCells z (n * z.size)).toList = zcells n z.toList := by
  apply List.ext_getElem
  · simp [madeCells, zcells]
  · intro i h1 h2
    have hlt : i % z.size < z.size := Nat.mod_lt _ h0
    simp [madeCells, zcells, hlt]
theorem zeroCells_eq (z : Array Value) (n : Nat) (h0 : 1 ≤ z.size) : (Builtin.zeroCells z n).toList = zcells n z.toList := by
  apply List.ext_getElem
  · simp [Builtin.zeroCells, zcells]
  · intro i h1 h2
    have hlt : i % z.size < z.size := Nat.mod_lt _ h0
    simp [Builtin.zeroCells, zcells, hlt]
theorem step_new {t : TypeId} {agg : Bool} {size nb lo : Nat} {z : List Value} (ht : tinfo P t = some (agg, size, z, nb)) (hz1 : z.all scal = true) (hz2 : z.all constOk = true) (hR : Rel m L0 H w) (hf : m H.length = none) :
    StepSim P (do pure (.value (← Instr.alloc t true (.tuple #[])))) L0 lo m H w (.pointer (some ⟨H.length, 0, none⟩)) (H ++ [.row z z.length false]) := by
  obtain ⟨i, d, zz, hi, hd, hzz, rfl, rfl, rfl, rfl⟩ := tinfo_spec ht
  have hrun : (Instr.alloc t true (.tuple #[])).run P w = .ok (.pointer (some ⟨w.heap.size, 0, none⟩)) (w.alloc (.cells zz.cells t)) := by
    simp [Instr.alloc, zeroValue, typeInfo, hi, hzz, newVar, newRow]
  have hA := alloc_rel hR hf (w' := w.alloc (.cells zz.cells t)) (arr := zz.cells) (e := t) (fz := (0, 0)) rfl ⟨rfl, rfl, rfl⟩ (cs := pcells zz) (esz := (pcells zz).length) (opn := false)
    (by rw [pcells_size]; exact Nat.le_refl _) (fun i hi => by
      have := (RL.const (m := m) hz2).2 i hi
      rwa [← getD_toList, pcells_toList]) hz1 (fun j _ h => by simp at h)
  exact StepSim.value hrun (.ptr _ 0 _ (bindAt_same m _ _)) hA.1 (hA.2 lo)
theorem step_box {t : TypeId} {v r : Value} {lo : Nat} (hv : RV m v r) (hs : (pcells v).all scal = true) (hR : Rel m L0 H w) (hf : m H.length = none) :
    StepSim P (do pure (.value (← Instr.box t r))) L0 lo m H w (.pointer (some ⟨H.length, 0, none⟩)) (H ++ [.row (pcells v) (pcells v).length false]) := by
  have hrun : (Instr.box t r).run P w = .ok (.pointer (some ⟨w.heap.size, 0, none⟩)) (w.alloc (.cells r.cells t)) := by
    simp [Instr.box, newVar, newRow]
  have hA := alloc_rel hR hf (w' := w.alloc (.cells r.cells t)) (arr := r.cells) (e := t) (fz := (0, 0)) rfl ⟨rfl, rfl, rfl⟩ (cs := pcells v) (esz := (pcells v).length) (opn := false)
    (by rw [pcells_size, hv.pcells.1]; exact Nat.le_refl _) (fun i hi => by
      have := hv.pcells.2 i hi
      rwa [← getD_toList, pcells_toList]) hs (fun j _ h => by simp at h)
  exact StepSim.value hrun (.ptr _ 0 _ (bindAt_same m _ _)) hA.1 (hA.2 lo)
theorem step_make {t : TypeId} {agg : Bool} {size nb lo : Nat} {z : List Value} {kl kc : IntKind} {l c : Int} (ht : elemInfo P t = some (agg, size, z, nb)) (hz1 : z.all scal = true) (hz2 : z.all constOk = true) (hzs : size = z.length) (hz0 : 1 ≤ size)
    (hl : 0 ≤ l) (hlc : l ≤ c) (hb : c * nb ≤ 281474976710656) (hc : c ≤ 9223372036854775807) (hR : Rel m L0 H w) (hf : m H.length = none) :
    StepSim P (do pure (.value (← Instr.makeSlice t (.int kl l) (.int kc c)))) L0 lo m H w (.slice (some ⟨H.length, 0, none⟩) l.toNat c.toNat) (H ++ [.row (zcells c.toNat z) z.length false]) := by
  obtain ⟨e, hu, hte⟩ := elemInfo_spec ht
  obtain ⟨i, d, zz, hi, hd, hzz, rfl, rfl, rfl, rfl⟩ := tinfo_spec hte
  have hrun := run_make (P := P) w t e i zz hu hi hzz kl kc l c hl hlc (by rw [Int.mul_comm]; exact hb) hc
  have hsz : i.size = zz.cells.size := by rw [hzs, pcells_size]
  rw [hsz] at hrun hz0
  have hcells : (madeCells zz.cells (c.toNat * zz.cells.size)).toList = zcells c.toNat (pcells zz) := by rw [made_zcells _ _ hz0, pcells_toList]
  have hsz2 : (madeCells zz.cells (c.toNat * zz.cells.size)).size = c.toNat * (pcells zz).length := by rw [size_madeCells, pcells_size]
  have hz0' : 1 ≤ (pcells zz).length := by rw [← pcells_size]; exact hz0
  have hA := alloc_rel hR hf (w' := w.alloc (.cells (madeCells zz.cells (c.toNat * zz.cells.size)) e)) (arr := madeCells zz.cells (c.toNat * zz.cells.size)) (e := e) (fz := (0, 0)) rfl ⟨rfl, rfl, rfl⟩
    (cs := zcells c.toNat (pcells zz)) (esz := (pcells zz).length) (opn := false) (by rw [hsz2, zcells_length]; exact Nat.le_refl _) (fun j hj => by
      have := (zcells_const (m := m) c.toNat hz2 hz0').2 j hj
      rwa [← getD_toList, hcells]) (zcells_scal _ hz1 hz0') (fun j _ h => by simp at h)
  refine StepSim.value hrun ?_ hA.1 (hA.2 lo)
  exact .slice _ 0 _ _ _ _ _ (bindAt_same m _ _) (by omega) (Nat.le_refl _) (fun _ => rfl) (.inr ⟨rfl, by simp only [hsz2]; omega⟩)
theorem step_lit {t : TypeId} {agg : Bool} {size nb lo n : Nat} {z cs : List Value} {parts : List (Nat × Operand)} {ρ : Env} {a : Act} (ht : elemInfo P t = some (agg, size, z, nb)) (hz1 : z.all scal = true) (hz2 : z.all constOk = true) (hzs : size = z.length) (hz0 : 1 ≤ size) (hn : n * size ≤ 16777216)
    (hfill : pfill ((List.range n).map fun i => (i * z.length, z.length)) (zcells n z) (parts.map fun (i, x) => (i, ev ρ x)) = some cs) (hsc : cs.all scal = true) (hr : ∀ p ∈ parts, RV m (ev ρ p.2) (a.eval p.2))
    (hR : Rel m L0 H w) (hf : m H.length = none) :
    StepSim P (do pure (.value (← Instr.buildSlice t n (parts.toArray.map fun (i, x) => (i, a.eval x))))) L0 lo m H w (.slice (some ⟨H.length, 0, none⟩) n n) (H ++ [.row cs z.length false]) := by
  obtain ⟨e, hu, hte⟩ := elemInfo_spec ht
  obtain ⟨i, d, zz, hi, hd, hzz, rfl, rfl, rfl, rfl⟩ := tinfo_spec hte
  have hsz : i.size = zz.cells.size := by rw [hzs, pcells_size]
  have hz0' : 1 ≤ (pcells zz).length := by rw [← pcells_size, ← hsz]; exact hz0
  have hpl : ∀ j q, ((List.range n).map fun i => (i * (pcells zz).length, (pcells zz).length))[j]? = some q → (fun i' => some (i' * i.size, i.size) : Nat → Option (Nat × Nat)) j = some q := by
    intro j q hj
    simp only [List.getElem?_map, Option.map_eq_some_iff] at hj
    obtain ⟨k, hk, rfl⟩ := hj
    have hk' := (List.getElem?_eq_some_iff.1 hk)
    obtain ⟨hk1, hk2⟩ := hk'
    simp at hk2
    subst hk2
    rw [← hzs]
  have hz : RL m (zcells n (pcells zz)) ((Array.range (n * i.size)).map (zz.cells[· % zz.cells.size]!)).toList := by
    have := zcells_const (m := m) n hz2 hz0'
    rw [hsz]
    have e1 := made_zcells zz.cells n (by rw [← hsz]; exact hz0)
    rw [pcells_toList] at e1
    show RL m _ (madeCells zz.cells (n * zz.cells.size)).toList
    rw [e1]
    exact this
  obtain ⟨rout, h1, h2⟩ := fill_rel (m := m) _ _ hpl (parts.map fun (i, x) => (i, ev ρ x)) (parts.map fun (i, x) => (i, a.eval x)) _ _ cs
    (by simp [Function.comp_def]) (by simpa [Function.comp_def] using RL.map (l := parts) (f := fun p => ev ρ p.2) (g := fun p => a.eval p.2) hr) hz hfill
  have hlen : cs.length = n * (pcells zz).length := by rw [pfill_length _ _ _ _ hfill, zcells_length]
  have emap : (Array.map (fun x : Nat × Operand => (x.1, a.eval x.2)) parts.toArray).toList = parts.map fun (i, x) => (i, a.eval x) := by simp
  have hbig : ¬ (2 ^ 24 < n * i.size) := by omega
  have hrun : (Instr.buildSlice t n (parts.toArray.map fun (i, x) => (i, a.eval x))).run P w = .ok (.slice (some ⟨w.heap.size, 0, none⟩) n n) (w.alloc (.cells rout e)) := by
    have h1' : Instr.fill (fun i' => some (i' * i.size, i.size)) ((Array.range (n * i.size)).map (zz.cells[· % zz.cells.size]!)) (Array.map (fun x : Nat × Operand => (x.1, a.eval x.2)) parts.toArray).toList = some rout := by rw [emap]; exact h1
    by_cases hn0 : n * i.size = 0
    · rw [hn0] at h1'
      simp only [show ∀ f : Nat → Value, (Array.range 0).map f = #[] from fun f => by simp] at h1'
      unfold Instr.buildSlice
      simp only [Sem.run_bind, run_underlying hu, Result.andThen_ok, run_sizeOf e i hi, hn0, if_true, Sem.run_pure, show ¬ (0 > 2 ^ 24) by omega, if_false]
      rw [show ∀ f : Nat → Value, (Array.range 0).map f = #[] from fun f => by simp]
      simp only [h1']
      simp [newRow]
    · unfold Instr.buildSlice
      simp only [Sem.run_bind, run_underlying hu, Result.andThen_ok, run_sizeOf e i hi, hn0, if_false, Sem.run_pure, gt_iff_lt, hbig, zeroValue, typeInfo, run_program, hi, hzz]
      simp only [h1']
      simp [newRow]
  have hrs : rout.size = n * (pcells zz).length := by rw [← hlen]; simpa using h2.1.symm
  have hA := alloc_rel hR hf (w' := w.alloc (.cells rout e)) (arr := rout) (e := e) (fz := (0, 0)) rfl ⟨rfl, rfl, rfl⟩ (cs := cs) (esz := (pcells zz).length) (opn := false)
    (by rw [hlen, hrs]; exact Nat.le_refl _) (fun j hj => by rw [← getD_toList]; exact h2.2 j hj) hsc (fun j _ h => by simp at h)
  refine StepSim.value hrun ?_ hA.1 (hA.2 lo)
  exact .slice _ 0 _ _ _ _ _ (bindAt_same m _ _) (Nat.le_refl _) (Nat.le_refl _) (fun _ => rfl) (.inr ⟨rfl, by simp only [hrs]; omega⟩)
theorem pbytes_rel (g : Value → ByteArray → Sem (ForInStep ByteArray)) (hg : ∀ n s, g (.int .u8 n) s = pure (ForInStep.yield (s.push (UInt8.ofNat n.toNat)))) : ∀ (cs rs : List Value) (bs : List UInt8) (acc : ByteArray), RL m cs rs → pbytes cs = some bs → ∀ w,
    (forIn rs acc g).run P w = .ok ⟨(acc.data.toList ++ bs).toArray⟩ w := by
  intro cs
  induction cs with
  | nil =>
    intro rs bs acc hr hb w
    have e0 : rs = [] := List.eq_nil_of_length_eq_zero hr.1.symm
    subst e0
    cases hb
    simp
  | cons c cs ih =>
    intro rs bs acc hr hb w
    cases rs with
    | nil => exact absurd hr.1 (by simp)
    | cons r rs =>
      obtain ⟨hc, hcs⟩ := hr.uncons
      unfold pbytes at hb
      split at hb
      · rename_i heq; cases heq
      · rename_i n rest heq
        cases heq
        cases hc
        cases h2 : pbytes cs with
        | none => rw [h2] at hb; cases hb
        | some bs' =>
          rw [h2] at hb
          cases hb
          simp only [List.forIn_cons, hg, Sem.run_bind, Sem.run_pure, Result.andThen_ok]
          rw [ih rs bs' _ hcs h2 w]
          simp [ByteArray.push]
      · cases hb
theorem step_b2s {s d e : TypeId} {rp : Value} {lo n b off c : Nat} {cs : List Value} {bs : List UInt8} (hs : P.underlying s = some (.slice e)) (hd : P.underlying d = some .string) (he : P.underlying e = some (.int .u8))
    (hrd : H.read b off n = some cs) (hb : pbytes cs = some bs) (hR : Rel m L0 H w) (hp : RV m (.slice (some ⟨b, off, none⟩) n c) rp) :
    StepSim P (do pure (.value (← convert s d rp))) L0 lo m H w (.string ⟨bs.toArray⟩) H := by
  cases hp with
  | slice _ _ _ _ l ra rc hm hn hc hx ha =>
    obtain ⟨rs, h1, h2, _, h3⟩ := read_rel hR hm hrd
    have hload : (loadCells ra n).run P w = .ok rs.toArray w := by
      rcases ha with ha | ⟨rfl, ha⟩
      · have h0 : n = 0 := by omega
        subst h0
        have e0 : rs = [] := List.eq_nil_of_length_eq_zero h2
        subst e0
        rfl
      · rw [← h2]
        exact run_loadCells_list w _ rs h3
    refine StepSim.value (rv := .string ⟨bs.toArray⟩) (w' := w) (m' := m) ?_ (.str _) hR (Trans.refl lo m H w)
    simp only [convert, Sem.run_bind, run_underlying hs, run_underlying hd, Result.andThen_ok, run_underlying he, Conv.bytesToString, hload, ← Array.forIn_toList]
    rw [pbytes_rel (P := P) (m := m) _ (fun n s => rfl) cs rs bs ByteArray.empty h1 hb w]
    simp
theorem run_slice {t e : TypeId} {i : TypeInfo} (hu : P.underlying t = some (.slice e)) (hi : P.info? e = some i) {a : Option Addr} {n c : Nat} {lo hi' mx : Option Value} {l h k : Nat}
    (hb : (Instr.sliceBounds true n c lo hi' mx).run P w = .ok (l, h, k) w) :
    (Instr.sliceAt t (.slice a n c) lo hi' mx).run P w = .ok (.slice (if k = l then a else a.map (·.add (l * i.size))) (h - l) (k - l)) w := by
  have h1 : (Instr.sliceAt t (.slice a n c) lo hi' mx).run P w = (Instr.slice t (.slice a n c) lo hi' mx).run P w := by
    unfold Instr.sliceAt
    rw [Sem.run_bind, run_underlying hu, Result.andThen_ok]
  rw [h1]
  unfold Instr.slice
  rw [Sem.run_bind, run_underlying hu, Result.andThen_ok]
  simp [hb, run_sizeOf e i hi]
theorem step_sub {t e : TypeId} {i : TypeInfo} {lo : Nat} {x rx v : Value} {l h mx l' h' mx' : Option Value} {H' : Heap} (hu : P.underlying t = some (.slice e)) (hi : P.info? e = some i)
    (hs : psub i.size x l h mx H = some (v, H')) (hx : RV m x rx) (hl : RO m l l') (hh : RO m h h') (hm : RO m mx mx') (hR : Rel m L0 H w) (hf : ∀ b, H.length ≤ b → b < H'.length → m b = none) :
    StepSim P (do pure (.value (← Instr.sliceAt t rx l' h' mx'))) L0 lo m H w v H' := by
  unfold psub at hs
  split at hs
  · rename_i n c
    split at hs
    · rename_i h0
      obtain ⟨rfl, rfl⟩ := h0
      cases hx
      split at hs
      · cases hs
      · rename_i M hM
        split at hs
        · cases hs
        · rename_i hb hhb
          split at hs
          · cases hs
          · rename_i lb hlb
            cases hs
            have key : ∃ k1 k2 k3, (Instr.sliceBounds true 0 0 l' h' mx').run P w = .ok (k1, k2, k3) w ∧ k1 = 0 ∧ k2 = 0 ∧ k3 = 0 := by
              rcases pbound_rel (P := P) hM hm with ⟨rfl, rfl, e1⟩ | ⟨_, r1, rfl, rfl, q1, e1⟩ <;> rcases pbound_rel (P := P) hhb hh with ⟨_, rfl, e2⟩ | ⟨_, r2, _, rfl, q2, e2⟩ <;> rcases pbound_rel (P := P) hlb hl with ⟨_, rfl, e3⟩ | ⟨_, r3, _, rfl, q3, e3⟩
              · cases e1; cases e2; cases e3
                exact ⟨0, 0, 0, rfl, rfl, rfl, rfl⟩
              · cases e1; cases e2
                exact ⟨lb, 0, 0, by simp [Instr.sliceBounds, e3 0 (Nat.le_refl _)], by omega, rfl, rfl⟩
              · cases e1; cases e3
                exact ⟨0, hb, 0, by simp [Instr.sliceBounds, e2 0 (Nat.le_refl _)], rfl, by omega, rfl⟩
              · cases e1
                exact ⟨lb, hb, 0, by simp [Instr.sliceBounds, e2 0 (Nat.le_refl _), e3 hb (Nat.le_refl _)], by omega, by omega, rfl⟩
              · cases e2
              · cases e2
              · cases e3
                exact ⟨0, hb, M, by simp [Instr.sliceBounds, e1 0 (Nat.le_refl _), e2 M (Nat.le_refl _)], rfl, by omega, by omega⟩
              · exact ⟨lb, hb, M, by simp [Instr.sliceBounds, e1 0 (Nat.le_refl _), e2 M (Nat.le_refl _), e3 hb (Nat.le_refl _)], by omega, by omega, by omega⟩
            obtain ⟨k1, k2, k3, hk, rfl, rfl, rfl⟩ := key
            exact StepSim.value (run_slice hu hi hk) (by simpa using RV.snil) hR (Trans.refl lo m H w)
    · cases hs
  · rename_i b o n c
    cases hx with
    | slice _ _ _ _ lc ra rc hmb hnc hcr hxp ha =>
      split at hs
      · rename_i cells es p hbk
        obtain ⟨g1, g2, g3, g4⟩ := hR.row b lc cells es p hmb hbk
        split at hs
        · rename_i hes
          subst hes
          split at hs
          · cases hs
          · rename_i M hM
            split at hs
            · cases hs
            · rename_i hb hhb
              split at hs
              · cases hs
              · rename_i lb hlb
                have key : ∃ k3, (Instr.sliceBounds true n rc l' h' mx').run P w = .ok (lb, hb, k3) w ∧ lb ≤ hb ∧ hb ≤ M ∧ M ≤ c ∧ ((mx = none ∧ k3 = rc ∧ M = c) ∨ (mx.isSome = true ∧ k3 = M)) := by
                  rcases pbound_rel (P := P) hM hm with ⟨rfl, rfl, e1⟩ | ⟨_, r1, rfl, rfl, q1, e1⟩ <;> rcases pbound_rel (P := P) hhb hh with ⟨_, rfl, e2⟩ | ⟨_, r2, _, rfl, q2, e2⟩ <;> rcases pbound_rel (P := P) hlb hl with ⟨_, rfl, e3⟩ | ⟨_, r3, _, rfl, q3, e3⟩
                  · cases e1; cases e2; cases e3
                    exact ⟨rc, rfl, Nat.zero_le _, hnc, Nat.le_refl _, .inl ⟨rfl, rfl, rfl⟩⟩
                  · cases e1; cases e2
                    exact ⟨rc, by simp [Instr.sliceBounds, e3 n (Nat.le_refl _)], q3, hnc, Nat.le_refl _, .inl ⟨rfl, rfl, rfl⟩⟩
                  · cases e1; cases e3
                    exact ⟨rc, by simp [Instr.sliceBounds, e2 rc hcr], Nat.zero_le _, q2, Nat.le_refl _, .inl ⟨rfl, rfl, rfl⟩⟩
                  · cases e1
                    exact ⟨rc, by simp [Instr.sliceBounds, e2 rc hcr, e3 hb (Nat.le_refl _)], q3, q2, Nat.le_refl _, .inl ⟨rfl, rfl, rfl⟩⟩
                  · cases e2
                  · cases e2
                  · cases e3
                    exact ⟨M, by simp [Instr.sliceBounds, e1 rc hcr, e2 M (Nat.le_refl _)], Nat.zero_le _, q2, q1, .inr ⟨rfl, rfl⟩⟩
                  · exact ⟨M, by simp [Instr.sliceBounds, e1 rc hcr, e2 M (Nat.le_refl _), e3 hb (Nat.le_refl _)], q3, q2, q1, .inr ⟨rfl, rfl⟩⟩
                obtain ⟨k3, hk, hlh, hhM, hMc, hcase⟩ := key
                have hrun := run_slice (a := some ra) hu hi hk
                have place : k3 - lb = 0 ∨ ((if k3 = lb then some ra else (some ra).map (·.add (lb * i.size))) = some (⟨lc.rb, lc.base + (o + lb * i.size), none⟩ : Addr) ∧ lc.base + (o + lb * i.size) + (k3 - lb) * lc.esz ≤ lc.rsz) := by
                  by_cases hz : k3 - lb = 0
                  · exact .inl hz
                  · right
                    have hk3 : k3 ≤ rc := by rcases hcase with ⟨_, rfl, _⟩ | ⟨_, rfl⟩ <;> omega
                    rcases ha with ha | ⟨rfl, ha⟩
                    · omega
                    · rw [if_neg (by omega)]
                      refine ⟨by simp [Addr.add_lit, Nat.add_assoc], ?_⟩
                      rw [g1] at ha ⊢
                      have e1 : (k3 - lb) * i.size = k3 * i.size - lb * i.size := Nat.sub_mul _ _ _
                      have e2 : lb * i.size ≤ k3 * i.size := Nat.mul_le_mul_right _ (by omega)
                      have e3 : k3 * i.size ≤ rc * i.size := Nat.mul_le_mul_right _ hk3
                      omega
                obtain ⟨ra', hra'⟩ : ∃ ra', (if k3 = lb then some ra else (some ra).map (·.add (lb * i.size))) = some ra' := by split <;> exact ⟨_, rfl⟩
                rw [hra'] at hrun
                have place' : k3 - lb = 0 ∨ (ra' = ⟨lc.rb, lc.base + (o + lb * i.size), none⟩ ∧ lc.base + (o + lb * i.size) + (k3 - lb) * lc.esz ≤ lc.rsz) := by
                  rcases place with hp | ⟨hp1, hp2⟩
                  · exact .inl hp
                  · rw [hra'] at hp1
                    exact .inr ⟨by injection hp1, hp2⟩
                split at hs
                · rename_i hemp
                  cases hs
                  obtain ⟨hsome, hMl⟩ := hemp
                  rcases hcase with ⟨rfl, _⟩ | ⟨_, rfl⟩
                  · cases hsome
                  · have hA := empty_rel hR (hf H.length (Nat.le_refl _) (by simp)) hmb i.size
                    refine StepSim.value (rv := .slice (some ra') 0 0) (by rw [hrun]; congr 2 <;> omega) ?_ hA.1 (hA.2 lo)
                    exact .slice _ 0 0 0 _ _ 0 (bindAt_same m _ _) (Nat.le_refl _) (Nat.le_refl _) (fun _ => rfl) (.inl rfl)
                · cases hs
                  refine StepSim.value hrun ?_ hR (Trans.refl lo m H w)
                  refine .slice b _ _ _ lc _ _ hmb (by omega) ?_ ?_ place'
                  · rcases hcase with ⟨_, rfl, rfl⟩ | ⟨_, rfl⟩ <;> omega
                  · intro ho
                    have := hxp ho
                    rcases hcase with ⟨_, rfl, rfl⟩ | ⟨_, rfl⟩ <;> omega
        · cases hs
      · cases hs
  · cases hs
end
end Go.PM
/- The pure machine's operations that write; then every operation. -/
namespace Go.PM
section
variable {P : Program} {m : PMap} {L0 : Nat} {H : Heap} {w : World}
theorem step_store {t : TypeId} {i : TypeInfo} {lo b o : Nat} {v r rp : Value} {H' : Heap} (hi : P.info? t = some i) (hp : RV m (.pointer (some ⟨b, o, none⟩)) rp) (hv : RV m v r) (hs : (pcells v).length = i.size)
    (hw : H.write lo b o (pcells v) = some H') (hR : Rel m L0 H w) (hlo : L0 ≤ lo) :
    StepSim P (do Instr.storeAt t rp r; pure .skip) L0 lo m H w undef H' := by
  cases hp with
  | ptr _ _ l hm =>
    obtain ⟨w', s1, s2, s3⟩ := write_rel P hR hlo hm hw hv.pcells
    refine ⟨undef, w', m, .inr ⟨?_, rfl⟩, RV.undef m, s2, s3⟩
    have hsz : r.cells.size = i.size := by rw [pcells_size, ← hv.pcells.1, hs]
    have h1 : (Instr.storeAt t (.pointer (some ⟨l.rb, l.base + o, none⟩)) r).run P w = .ok () w' := by
      show (storeVar t ⟨l.rb, l.base + o, none⟩ r).run P w = _
      unfold storeVar
      simp only [Sem.run_bind, run_sizeOf t i hi, Result.andThen_ok, hsz, ne_eq, not_true_eq_false, if_false, pcells_toList]
      exact s1
    rw [Sem.run_bind, h1]
    rfl
theorem lenOf_rel {pv rv : Value} {k : Nat} (h : plenOf pv = some k) (hr : RV m pv rv) : Builtin.lenOf rv = pure k := by
  unfold plenOf at h
  split at h
  · cases h; cases hr <;> rfl
  · cases h; cases hr; rfl
  · cases h
theorem getD_append_arr (a b : Array Value) (xs : List Value) (h : a.toList = xs) (i : Nat) (hi : i < xs.length) : (a ++ b).getD i undef = xs.getD i undef := by
  subst h
  have : i < a.size := by simpa using hi
  simp [Array.getD_eq_getD_getElem?, Array.getElem?_append_left this, List.getD_eq_getElem?_getD]
theorem step_app {t u ty : TypeId} {agg : Bool} {size bytes lo k : Nat} {z : List Value} {d : TypeDesc} {x y rx ry v : Value} {new : List Value} {H' : Heap} (ht : elemInfo P t = some (agg, size, z, bytes)) (hu : P.underlying u = some d) (hd : isAppD d = true)
    (hk : plenOf y = some k) (hsrc : psource H size k y = some new) (hap : pappend lo size bytes x k new H = some (v, H')) (hx : RV m x rx) (hy : RV m y ry) (hzs : size = z.length)
    (hR : Rel m L0 H w) (hlo : L0 ≤ lo) (hf : ∀ b, H.length ≤ b → b < H'.length → m b = none) :
    StepSim P (do pure (.value (← Builtin.append_ #[t, u] ty #[rx, ry]))) L0 lo m H w v H' := by
  obtain ⟨e, hte, htie⟩ := elemInfo_spec ht
  obtain ⟨i, de, zz, hi, _, hzz, rfl, rfl, rfl, rfl⟩ := tinfo_spec htie
  obtain ⟨rnew, h1, h2, h3⟩ := psource_rel hsrc hk (Nat.le_refl _) hR hy
  have hl := lenOf_rel hk hy
  have hb1 : 1 ≤ i.bytes := by
    unfold pappend at hap
    split at hap
    · rename_i h; exact h.1
    · cases hap
  have hnl : new.length = k * i.size := by
    unfold pappend at hap
    split at hap
    · rename_i h; exact h.2.2.2
    · cases hap
  obtain ⟨rv, w', m', g1, g2, g3, g4⟩ := pappend_rel (P := P) (s := Builtin.append_ #[t, u] ty #[rx, ry]) (e := e) hap hR hlo hx h1 hf
    (fun a n c w' hrx hroom hst => by
      subst hrx
      exact run_app_room hte hu hd hi hl (h3 w rfl) hroom hst)
    (fun hrx hk0 => by
      subst hrx
      subst hk0
      exact run_app_nil hte hu hd hi hl (h3 w rfl))
    (fun base n c olds hrx hfo hol hg hb => by
      subst hrx
      refine ⟨grownCap w (n + k) c e, _, grownCap_ge w _ _ _, run_app_grow hte hu hd hi hzz hl hfo (h3 w.drew rfl) hg hb1 hb, ?_, ?_⟩
      · have hge := grownCap_ge w (n + k) c e
        have hrl : rnew.length = k * i.size := by rw [← h1.1, hnl]
        simp only [Array.size_append, List.size_toArray, size_zeroCells, hol, hrl]
        rw [← pcells_size] at hzs
        rw [← hzs, ← Nat.add_mul, ← Nat.add_mul]
        congr 1
        omega
      · intro j hj
        exact getD_append_arr _ _ _ (by simp) j hj)
  exact StepSim.value g1 g2 g3 g4
section
variable {t u ty e : TypeId} {ku : IntKind} {i : TypeInfo} {zz : Value} {k : Nat}
theorem wrap_nat {k : Nat} (h : k ≤ 140737488355328) : IntKind.i64.wrap (k : Int) = (k : Int) := by rw [IntKind.wrap_i64]; omega
theorem run_appz_room (ht : P.underlying t = some (.slice e)) (hu : P.underlying u = some (.int ku)) (hi : P.info? e = some i) (hzz : i.zero = some zz) (hk : k ≤ 140737488355328) (hkb : k * i.bytes ≤ 140737488355328)
    {a : Addr} {n c : Nat} {w' : World} (hroom : n + k ≤ c) (hz : k * i.size = 0 → Builtin.zeroCells zz.cells k = #[]) (hst : (storeCells (a.add (n * i.size)) (Builtin.zeroCells zz.cells k).toList).run P w = .ok () w') :
    (Builtin.append_ #[t, u] ty #[.slice (some a) n c, .int .i64 k]).run P w = .ok (.slice (some a) (n + k) c) w' := by
  have h0 : ¬ ((k : Int) < 0) := by omega
  have hb : ¬ (281474976710656 < (k : Int) * (i.bytes : Int)) := by rw [← Int.natCast_mul]; omega
  by_cases hz0 : k * i.size = 0
  · rw [hz hz0] at hst
    simp [Builtin.append_, run_underlying ht, run_underlying hu, run_sizeOf e i hi, asInt, asIntOf, wrap_nat hk, typeInfo, hi, h0, hb, hroom, hz0, hst]
  · simp [Builtin.append_, run_underlying ht, run_underlying hu, run_sizeOf e i hi, asInt, asIntOf, wrap_nat hk, typeInfo, hi, h0, hb, hroom, hz0, zeroValue, hzz, hst]
theorem run_appz_nil (ht : P.underlying t = some (.slice e)) (hu : P.underlying u = some (.int ku)) (hi : P.info? e = some i) :
    (Builtin.append_ #[t, u] ty #[.slice none 0 0, .int .i64 (0 : Nat)]).run P w = .ok (.slice none 0 0) w := by
  have hw : IntKind.i64.wrap 0 = 0 := rfl
  simp [Builtin.append_, run_underlying ht, run_underlying hu, run_sizeOf e i hi, asInt, asIntOf, hw, typeInfo, hi]
theorem run_appz_grow (ht : P.underlying t = some (.slice e)) (hu : P.underlying u = some (.int ku)) (hi : P.info? e = some i) (hzz : i.zero = some zz) (hk : k ≤ 140737488355328) (hkb : k * i.bytes ≤ 140737488355328)
    {base : Option Addr} {n c : Nat} {olds : List Value} (hfo : (Builtin.firstCells i.size n (.slice base n c)).run P w.drew = .ok olds.toArray w.drew) (hz : k * i.size = 0 → Builtin.zeroCells zz.cells k = #[])
    (hg : c < n + k) (hb1 : 1 ≤ i.bytes) (hbb : (n + k) * i.bytes ≤ 140737488355328) :
    (Builtin.append_ #[t, u] ty #[.slice base n c, .int .i64 k]).run P w = .ok (.slice (some ⟨w.heap.size, 0, none⟩) (n + k) (grownCap w (n + k) c e))
      (w.drew.alloc (.cells (olds.toArray ++ Builtin.zeroCells zz.cells k ++ Builtin.zeroCells zz.cells (grownCap w (n + k) c e - (n + k))) e)) := by
  have hfit := growslice_fits (bytes := i.bytes) hg hbb
  have h0 : ¬ ((k : Int) < 0) := by omega
  have hb : ¬ (281474976710656 < (k : Int) * (i.bytes : Int)) := by rw [← Int.natCast_mul]; omega
  have h1 : ¬ (n + k ≤ c) := by omega
  have h2 : ¬ (281474976710656 < Builtin.nextslicecap (n + k) c * i.bytes) := by omega
  have h4 : n + k ≤ 140737488355328 := Nat.le_trans (Nat.le_mul_of_pos_right _ hb1) hbb
  have h3 : ¬ (9223372036854775807 < (n : Int) + (k : Int)) := by omega
  by_cases hz0 : k * i.size = 0
  · have e0 := hz hz0
    simp [Builtin.append_, run_underlying ht, run_underlying hu, run_sizeOf e i hi, asInt, asIntOf, wrap_nat hk, typeInfo, hi, h0, hb, h1, h2, h3, e0, zeroValue, hzz, Question.forced, hfo, newRow, grownCap]
  · simp [Builtin.append_, run_underlying ht, run_underlying hu, run_sizeOf e i hi, asInt, asIntOf, wrap_nat hk, typeInfo, hi, h0, hb, h1, h2, h3, hz0, zeroValue, hzz, Question.forced, hfo, newRow, grownCap]
end
theorem step_appz {t u ty : TypeId} {agg : Bool} {size bytes lo : Nat} {z : List Value} {ku : IntKind} {n : Int} {x rx v : Value} {H' : Heap} (ht : elemInfo P t = some (agg, size, z, bytes)) (hu : P.underlying u = some (.int ku))
    (hn : 0 ≤ n ∧ n * bytes ≤ 140737488355328) (hap : pappend lo z.length bytes x n.toNat (zcells n.toNat z) H = some (v, H')) (hx : RV m x rx) (hzs : size = z.length) (hz1 : z.all scal = true) (hz2 : z.all constOk = true) (hz0 : 1 ≤ z.length)
    (hR : Rel m L0 H w) (hlo : L0 ≤ lo) (hf : ∀ b, H.length ≤ b → b < H'.length → m b = none) :
    StepSim P (do pure (.value (← Builtin.append_ #[t, u] ty #[rx, .int .i64 n]))) L0 lo m H w v H' := by
  obtain ⟨e, hte, htie⟩ := elemInfo_spec ht
  obtain ⟨i, de, zz, hi, _, hzz, rfl, rfl, rfl, rfl⟩ := tinfo_spec htie
  obtain ⟨k, rfl⟩ := Int.eq_ofNat_of_zero_le hn.1
  simp only [Int.toNat_natCast] at hap
  have hb1 : 1 ≤ i.bytes := by
    unfold pappend at hap
    split at hap
    · rename_i h; exact h.1
    · cases hap
  have hkb : k * i.bytes ≤ 140737488355328 := by have := hn.2; omega
  have hk : k ≤ 140737488355328 := Nat.le_trans (Nat.le_mul_of_pos_right _ hb1) hkb
  have hsz : i.size = zz.cells.size := by rw [hzs, pcells_size]
  have hz0' : 1 ≤ zz.cells.size := by rw [pcells_size]; exact hz0
  have hnew : (Builtin.zeroCells zz.cells k).toList = zcells k (pcells zz) := by rw [zeroCells_eq _ _ hz0', pcells_toList]
  have hzz0 : k * i.size = 0 → Builtin.zeroCells zz.cells k = #[] := by
    intro h0
    apply Array.ext'
    rw [hnew]
    exact List.eq_nil_of_length_eq_zero (by rw [zcells_length, ← hzs]; exact h0)
  obtain ⟨rv, w', m', g1, g2, g3, g4⟩ := pappend_rel (P := P) (s := Builtin.append_ #[t, u] ty #[rx, .int .i64 k]) (e := e) (rnew := zcells k (pcells zz)) hap hR hlo hx (zcells_const k hz2 hz0) hf
    (fun a n c w' hrx hroom hst => by
      subst hrx
      exact run_appz_room hte hu hi hzz hk hkb hroom hzz0 (by rw [hnew, hzs]; exact hst))
    (fun hrx hk0 => by
      subst hrx
      subst hk0
      exact run_appz_nil hte hu hi)
    (fun base n c olds hrx hfo hol hg hb => by
      subst hrx
      refine ⟨grownCap w (n + k) c e, _, grownCap_ge w _ _ _, run_appz_grow hte hu hi hzz hk hkb (by rw [hzs]; exact hfo) hzz0 hg hb1 hb, ?_, ?_⟩
      · have hge := grownCap_ge w (n + k) c e
        simp only [Array.size_append, List.size_toArray, size_zeroCells, hol, pcells_size]
        rw [← Nat.add_mul, ← Nat.add_mul]
        congr 1
        omega
      · intro j hj
        exact getD_append_arr _ _ _ (by simp [hnew]) j hj)
  exact StepSim.value g1 g2 g3 g4
theorem step_copy {t ty : TypeId} {ts : List TypeId} {agg : Bool} {size bytes lo b o d c k : Nat} {z new : List Value} {y rx ry : Value} {H' : Heap} (ht : elemInfo P t = some (agg, size, z, bytes))
    (hk : plenOf y = some k) (hsrc : psource H size (Nat.min k d) y = some new) (hw : H.write lo b o new = some H') (hx : RV m (.slice (some ⟨b, o, none⟩) d c) rx) (hy : RV m y ry)
    (hR : Rel m L0 H w) (hlo : L0 ≤ lo) :
    StepSim P (do pure (.value (← Builtin.copy_ (t :: ts).toArray ty #[rx, ry]))) L0 lo m H w (.int .i64 (Nat.min k d)) H' := by
  obtain ⟨e, hte, htie⟩ := elemInfo_spec ht
  obtain ⟨i, de, zz, hi, _, hzz, rfl, rfl, rfl, rfl⟩ := tinfo_spec htie
  obtain ⟨rnew, h1, h2, h3⟩ := psource_rel (P := P) hsrc hk (Nat.min_le_left _ _) hR hy
  have hl := lenOf_rel hk hy
  cases hx with
  | slice _ _ _ _ l ra rc hm hn hc hxp ha =>
    rcases ha with ha | ⟨rfl, ha⟩
    · have hd0 : d = 0 := by omega
      subst hd0
      have hmin : Nat.min k 0 = 0 := Nat.min_zero k
      rw [hmin] at hsrc h3 ⊢
      have hnew : new = [] := by
        have : rnew.length = new.length := h1.1.symm
        unfold psource at hsrc
        split at hsrc
        · obtain ⟨_, _, _, _, _, _, hlen⟩ := read_spec hsrc
          exact List.eq_nil_of_length_eq_zero (by simpa using hlen)
        · split at hsrc
          · cases hsrc; rfl
          · cases hsrc
        · split at hsrc
          · cases hsrc; simp
          · cases hsrc
        · cases hsrc
      subst hnew
      have hrn : rnew = [] := List.eq_nil_of_length_eq_zero h1.1.symm
      subst hrn
      have hHH : H' = H := by
        obtain ⟨cs, e', p', q1, q2, q3, q4, rfl⟩ := write_spec hw
        apply List.ext_getElem?
        intro j
        by_cases hj : b = j
        · subst hj
          rw [List.getElem?_set_self (List.getElem?_eq_some_iff.1 q1).1, q1]
          simp [splice]
        · rw [List.getElem?_set_ne hj]
      rw [hHH]
      refine StepSim.value (rv := .int .i64 0) (w' := w) ?_ (.int _ _) hR (Trans.refl lo m _ w)
      have hf0 := h3 w rfl
      simp [Builtin.copy_, run_underlying hte, hl, run_sizeOf e i hi, goInt, hf0, storeCells]
    · obtain ⟨w', s1, s2, s3⟩ := write_rel P hR hlo hm hw h1
      refine StepSim.value (rv := .int .i64 (Nat.min k d)) ?_ (.int _ _) s2 s3
      have hf0 := h3 w rfl
      unfold Builtin.copy_
      simp only [List.getElem?_toArray, List.getElem?_cons_zero, List.getElem?_cons_succ, Sem.run_bind, run_underlying hte, Result.andThen_ok, hl, Sem.run_pure, run_sizeOf e i hi]
      rw [hf0]
      simp only [Result.andThen_ok, s1, goInt]
theorem step_clear {t ty e : TypeId} {ts : List TypeId} {i : TypeInfo} {zz : Value} {lo b o n c : Nat} {rx : Value} {H' : Heap} (hte : P.underlying t = some (.slice e)) (hi : P.info? e = some i) (hzz : i.zero = some zz)
    (hn0 : n ≠ 0) (hw : H.write lo b o (zcells n (pcells zz)) = some H') (hx : RV m (.slice (some ⟨b, o, none⟩) n c) rx) (hz2 : (pcells zz).all constOk = true) (hz0 : 1 ≤ (pcells zz).length) (hR : Rel m L0 H w) (hlo : L0 ≤ lo) :
    StepSim P (do pure (.value (← Builtin.clear_ (t :: ts).toArray ty #[rx]))) L0 lo m H w undef H' := by
  cases hx with
  | slice _ _ _ _ l ra rc hm hn hc hxp ha =>
    rcases ha with ha | ⟨rfl, ha⟩
    · omega
    · obtain ⟨w', s1, s2, s3⟩ := write_rel P hR hlo hm hw (zcells_const n hz2 hz0)
      have hnew : (Builtin.zeroCells zz.cells n).toList = zcells n (pcells zz) := by rw [zeroCells_eq _ _ (by rw [pcells_size]; exact hz0), pcells_toList]
      refine StepSim.value (rv := undef) ?_ (RV.undef m) s2 s3
      rw [← hnew] at s1
      obtain ⟨n', rfl⟩ : ∃ n', n = n' + 1 := ⟨n - 1, by omega⟩
      simp [Builtin.clear_, run_underlying hte, zeroValue, typeInfo, hi, hzz, s1, undef]
theorem step_clear0 {t ty e : TypeId} {ts : List TypeId} {lo c : Nat} {a : Option Addr} {rx : Value} (hte : P.underlying t = some (.slice e)) (hx : RV m (.slice a 0 c) rx) (hR : Rel m L0 H w) :
    StepSim P (do pure (.value (← Builtin.clear_ (t :: ts).toArray ty #[rx]))) L0 lo m H w undef H := by
  refine StepSim.value (rv := undef) (w' := w) ?_ (RV.undef m) hR (Trans.refl lo m _ w)
  cases hx <;> simp [Builtin.clear_, run_underlying hte, undef]
end
end Go.PM
/- Every operation of the pure machine: the model's comes to a related state. -/
namespace Go.PM
section
variable {P : Program} {m : PMap} {L0 : Nat} {H : Heap} {w : World}
theorem pure_out {po : POp} {ρ : Env} {v : Value} {H' : Heap} (h : (ppure po ρ).map (Out.val · H) = some (.val v H')) : ppure po ρ = some v ∧ H' = H := by
  cases hp : ppure po ρ with
  | none => rw [hp] at h; cases h
  | some u => rw [hp] at h; cases h; exact ⟨rfl, rfl⟩
def looksPure : POp → Bool
  | .load .. | .sub .. | .b2s _ | .new _ | .box _ | .make .. | .lit .. | .call .. | .store .. | .app .. | .appz .. | .copy .. | .clear .. | .callv .. => false
  | _ => true
theorem pop_pure {lo : Nat} {po : POp} {ρ : Env} (h : looksPure po = true) : pop lo po ρ H = (ppure po ρ).map (.val · H) := by
  cases po <;> first | rfl | cases h
theorem firstCells0 {pv rv : Value} {k : Nat} (size : Nat) (h : plenOf pv = some k) (hr : RV m pv rv) : (Builtin.firstCells size 0 rv).run P w = .ok #[] w := by
  unfold plenOf at h
  split at h
  · cases hr
    · rfl
    · simp only [Builtin.firstCells, Nat.zero_mul]
      rfl
  · cases hr
    simp [Builtin.firstCells]
  · cases h
theorem sim_pop {o : Oper} {po : POp} {ρ : Env} {a : Act} {lo : Nat} {v : Value} {H' : Heap} (hp : prepOp P o.op = some po) (hv : pop lo po ρ H = some (.val v H')) (hr : ∀ x ∈ o.op.operands, RV m (ev ρ x) (a.eval x))
    (hR : Rel m L0 H w) (hlo : L0 ≤ lo) (hf : ∀ b, H.length ≤ b → b < H'.length → m b = none) : StepSim P (execOp a.eval o) L0 lo m H w v H' := by
  by_cases hpure : looksPure po = true
  · rw [pop_pure hpure] at hv
    obtain ⟨h1, rfl⟩ := pure_out hv
    obtain ⟨rv, h2, h3⟩ := sim_pure hp h1 hr
    exact ⟨rv, w, m, .inl (h3 w), h2, hR, Trans.refl lo m _ w⟩
  obtain ⟨dst, op, type, pos, after, guard⟩ := o
  unfold prepOp at hp
  simp only at hp hr ⊢
  split at hp
  case isFalse => cases hp
  cases op with
  | move x => cases hp; exact absurd rfl hpure
  | assign x => cases hp; exact absurd rfl hpure
  | pick c x y => cases hp; exact absurd rfl hpure
  | binOp op t x y yt =>
    unfold prepBin at hp
    simp only at hp
    split at hp
    · cases hp; exact absurd rfl hpure
    · cases hp; exact absurd rfl hpure
    · split at hp <;> first | (cases hp; done) | (cases hp; exact absurd rfl hpure)
    · split at hp <;> first | (cases hp; done) | (split at hp <;> first | (cases hp; done) | (cases hp; exact absurd rfl hpure))
    · split at hp <;> first | (cases hp; done) | (cases hp; exact absurd rfl hpure)
    · cases hp
  | unOp op t x => cases hp; exact absurd rfl hpure
  | extract x i => cases hp; exact absurd rfl hpure
  | convert s d x =>
    have hx := hr x (by simp [Op.operands])
    simp only at hp
    split at hp
    · cases hp; exact absurd rfl hpure
    · cases hp; exact absurd rfl hpure
    · rename_i e hs hd
      split at hp
      · rename_i he
        cases hp
        simp only [pop] at hv
        split at hv
        · rename_i n c hx0
          cases hv
          rw [hx0] at hx
          show StepSim P (do pure (.value (← convert s d (a.eval x)))) L0 lo m H w _ H
          generalize a.eval x = rx at hx ⊢
          cases hx
          refine StepSim.value (rv := .string ByteArray.empty) ?_ (.str _) hR (Trans.refl lo m _ w)
          simp [convert, run_underlying hs, run_underlying hd, run_underlying he, Conv.bytesToString]
        · rename_i b o n c hx0
          split at hv
          · rename_i cs hcs
            cases hb : pbytes cs with
            | none => rw [hb] at hv; cases hv
            | some bs =>
              rw [hb] at hv
              cases hv
              rw [hx0] at hx
              exact step_b2s hs hd he hcs hb hR hx
          · cases hv
        · cases hv
      · cases hp
    · cases hp
  | field t x i =>
    simp only at hp
    split at hp
    · split at hp
      · rename_i f hf'
        cases ht : tinfo P f.type with
        | none => rw [ht] at hp; cases hp
        | some q => rw [ht] at hp; cases hp; exact absurd rfl hpure
      · cases hp
    · cases hp
  | build t parts =>
    simp only at hp
    split at hp
    · split at hp
      · split at hp
        · cases hp; exact absurd rfl hpure
        · cases hp
      · cases hp
    · cases hp
  | nilCheck x => cases hp; exact absurd rfl hpure
  | fieldAddr t x i =>
    simp only at hp
    split at hp
    · split at hp
      · split at hp
        · split at hp
          · cases hp
          · cases hp; exact absurd rfl hpure
        · cases hp
      · cases hp
    · cases hp
  | indexAddr t x i =>
    simp only at hp
    cases ht : elemInfo P t with
    | none => rw [ht] at hp; cases hp
    | some q => rw [ht] at hp; cases hp; exact absurd rfl hpure
  | index t x i =>
    simp only at hp
    split at hp
    · cases hp; exact absurd rfl hpure
    · cases hp
  | slice t x lo' hi mx =>
    have hx := hr x (by simp [Op.operands])
    simp only at hp
    split at hp
    · split at hp
      · cases hp; exact absurd rfl hpure
      · cases hp
    · rename_i e hu
      cases ht : tinfo P e with
      | none => rw [ht] at hp; cases hp
      | some q =>
        obtain ⟨agg, size, z, nb⟩ := q
        rw [ht] at hp
        cases hp
        obtain ⟨i, d, zz, hi', _, _, rfl, rfl, rfl, rfl⟩ := tinfo_spec ht
        simp only [pop] at hv
        cases hs : psub i.size (ev ρ x) (lo'.map (ev ρ)) (hi.map (ev ρ)) (mx.map (ev ρ)) H with
        | none => rw [hs] at hv; cases hv
        | some q =>
          obtain ⟨u, H1⟩ := q
          rw [hs] at hv
          cases hv
          exact step_sub hu hi' hs hx (RO.map fun y hy => hr y (by simp [Op.operands, hy])) (RO.map fun y hy => hr y (by simp [Op.operands, hy])) (RO.map fun y hy => hr y (by simp [Op.operands, hy])) hR hf
    · cases hp
  | makeFunc fn first caps =>
    cases fn with
    | func f =>
      simp only at hp
      split at hp
      · cases hp; exact absurd rfl hpure
      · cases hp
    | _ => cases hp
  | makeInterface t x => cases hp; exact absurd rfl hpure
  | panic x => cases hp; exact absurd rfl hpure
  | load t p =>
    have hx := hr p (by simp [Op.operands])
    simp only at hp
    cases ht : tinfo P t with
    | none => rw [ht] at hp; cases hp
    | some q =>
      obtain ⟨agg, size, z, nb⟩ := q
      rw [ht] at hp
      cases hp
      simp only [pop] at hv
      cases hl : pload agg size (ev ρ p) H with
      | none => rw [hl] at hv; cases hv
      | some u =>
        rw [hl] at hv
        cases hv
        obtain ⟨rv, h1, h2⟩ := pload_rel ht hl hR hx
        exact StepSim.value h2 h1 hR (Trans.refl lo m _ w)
  | store t p x =>
    have hpp := hr p (by simp [Op.operands])
    have hx := hr x (by simp [Op.operands])
    simp only at hp
    cases ht : P.info? t with
    | none => rw [ht] at hp; cases hp
    | some i =>
      rw [ht] at hp
      cases hp
      simp only [pop] at hv
      split at hv
      · rename_i b o hpo
        split at hv
        · rename_i hs
          cases hw : H.write lo b o (pcells (ev ρ x)) with
          | none => rw [hw] at hv; cases hv
          | some H1 =>
            rw [hw] at hv
            cases hv
            rw [hpo] at hpp
            exact step_store ht hpp hx hs hw hR hlo
        · cases hv
      · cases hv
  | alloc t =>
    simp only at hp
    split at hp
    · rename_i agg size z nb ht
      split at hp
      · rename_i hz
        cases hp
        simp only [Bool.and_eq_true] at hz
        cases hv
        exact step_new ht hz.1 hz.2 hR (hf _ (Nat.le_refl _) (by simp))
      · cases hp
    · cases hp
  | box t x =>
    have hx := hr x (by simp [Op.operands])
    cases hp
    simp only [pop] at hv
    split at hv
    · rename_i hs
      cases hv
      exact step_box hx hs hR (hf _ (Nat.le_refl _) (by simp))
    · cases hv
  | makeSlice t l c =>
    have hl := hr l (by simp [Op.operands])
    have hc := hr c (by simp [Op.operands])
    simp only at hp
    split at hp
    · rename_i agg size z nb ht
      split at hp
      · rename_i hz
        cases hp
        simp only [Bool.and_eq_true, beq_iff_eq, decide_eq_true_eq] at hz
        obtain ⟨⟨⟨z1, z2⟩, z3⟩, z4⟩ := hz
        simp only [pop] at hv
        split at hv
        · rename_i l' c' hl' hc'
          split at hv
          · rename_i hb
            cases hv
            rw [hl'] at hl
            rw [hc'] at hc
            show StepSim P (do pure (.value (← Instr.makeSlice t (a.eval l) (a.eval c)))) L0 lo m H w _ _
            generalize a.eval l = rl at hl ⊢
            generalize a.eval c = rc at hc ⊢
            cases hl
            cases hc
            exact step_make ht z1 z2 z3 z4 hb.1 hb.2.1 hb.2.2.1 hb.2.2.2 hR (hf _ (Nat.le_refl _) (by simp))
          · cases hv
        · cases hv
      · cases hp
    · cases hp
  | buildSlice t n parts =>
    simp only at hp
    split at hp
    · rename_i agg size z nb ht
      split at hp
      · rename_i hz
        cases hp
        simp only [Bool.and_eq_true, beq_iff_eq, decide_eq_true_eq] at hz
        obtain ⟨⟨⟨⟨z1, z2⟩, z3⟩, z4⟩, z5⟩ := hz
        simp only [pop] at hv
        split at hv
        · rename_i cs hcs
          split at hv
          · rename_i hsc
            cases hv
            have := step_lit (P := P) (w := w) (lo := lo) (a := a) ht z1 z2 z3 z4 z5 hcs hsc (fun p hpm => hr p.2 (by simp only [Op.operands]; simp; exact ⟨p.1, by simpa using hpm⟩)) hR (hf _ (Nat.le_refl _) (by simp))
            rw [Array.toArray_toList] at this
            exact this
          · cases hv
        · cases hv
      · cases hp
    · cases hp
  | call c =>
    obtain ⟨callee, args, ts⟩ := c
    cases callee with
    | builtin b =>
      have hra : ∀ x ∈ args, RV m (ev ρ x) (a.eval x) := fun x hx => hr x (by simpa [Op.operands, Call.operands] using hx)
      simp only at hp
      unfold prepBuiltin at hp
      split at hp
      · split at hp <;> first | (cases hp; done) | (cases hp; exact absurd rfl hpure)
      · split at hp <;> first | (cases hp; done) | (cases hp; exact absurd rfl hpure)
      · cases hp; exact absurd rfl hpure
      · cases hp; exact absurd rfl hpure
      · rename_i x y t u trest hargs hts _
        have ea : args = #[x, y] := Array.toList_inj.1 (by simpa using hargs)
        subst ea
        have hx := hra x (by simp)
        have hy := hra y (by simp)
        have hts2 : ∃ tr, ts = (t :: u :: tr).toArray := ⟨trest, Array.toList_inj.1 (by simpa using hts)⟩
        obtain ⟨tr, rfl⟩ := hts2
        show StepSim P (do pure (.value (← Builtin.append_ (t :: u :: tr).toArray type ((#[x, y] : Array Operand).map a.eval)))) L0 lo m H w v H'
        rw [map_two]
        have happ : ∀ r1 r2, Builtin.append_ (t :: u :: tr).toArray type #[r1, r2] = Builtin.append_ #[t, u] type #[r1, r2] := fun r1 r2 => by simp [Builtin.append_]
        rw [happ]
        split at hp
        · rename_i agg size zero bytes ku ht hu
          split at hp
          · rename_i hz
            cases hp
            simp only [Bool.and_eq_true, beq_iff_eq, decide_eq_true_eq] at hz
            obtain ⟨⟨⟨z1, z2⟩, z3⟩, z4⟩ := hz
            simp only [pop] at hv
            split at hv
            · rename_i n hn
              split at hv
              · rename_i hb
                cases hap : pappend lo zero.length bytes (ev ρ x) n.toNat (zcells n.toNat zero) H with
                | none => rw [hap] at hv; cases hv
                | some q =>
                  obtain ⟨u', H1⟩ := q
                  rw [hap] at hv
                  cases hv
                  rw [hn] at hy
                  generalize a.eval y = ry at hy ⊢
                  cases hy
                  exact step_appz ht hu hb hap hx z4 z1 z2 z3 hR hlo hf
              · cases hv
            · cases hv
          · cases hp
        · rename_i agg size zero bytes d _ ht hu
          split at hp
          · rename_i hd
            split at hp
            · rename_i hzs
              cases hp
              simp only [pop] at hv
              split at hv
              · rename_i k hk
                split at hv
                · rename_i new hnew
                  cases hap : pappend lo size bytes (ev ρ x) k new H with
                  | none => rw [hap] at hv; cases hv
                  | some q =>
                    obtain ⟨u', H1⟩ := q
                    rw [hap] at hv
                    cases hv
                    exact step_app ht hu hd hk hnew hap hx hy (by simpa using hzs) hR hlo hf
                · cases hv
              · cases hv
            · cases hp
          · cases hp
        · cases hp
      · rename_i x y t trest hargs hts _
        have ea : args = #[x, y] := Array.toList_inj.1 (by simpa using hargs)
        have et : ts = (t :: trest).toArray := Array.toList_inj.1 (by simpa using hts)
        subst ea; subst et
        have hx := hra x (by simp)
        have hy := hra y (by simp)
        show StepSim P (do pure (.value (← Builtin.copy_ (t :: trest).toArray type ((#[x, y] : Array Operand).map a.eval)))) L0 lo m H w v H'
        rw [map_two]
        split at hp
        · rename_i agg size zero bytes ht
          cases hp
          simp only [pop] at hv
          split at hv
          · rename_i n c k hx0 hk
            cases hv
            rw [hx0] at hx
            generalize a.eval x = rx at hx ⊢
            cases hx
            obtain ⟨e, hte, htie⟩ := elemInfo_spec ht
            obtain ⟨i, de, zz, hi, _, hzz, _, _, _, _⟩ := tinfo_spec htie
            refine StepSim.value (rv := .int .i64 0) (w' := w) ?_ (.int _ _) hR (Trans.refl lo m _ w)
            have hl := lenOf_rel hk hy
            have hf0 := firstCells0 (P := P) (w := w) i.size hk hy
            simp [Builtin.copy_, run_underlying hte, hl, run_sizeOf e i hi, goInt, hf0]
          · rename_i b o d c k hx0 hk
            split at hv
            · rename_i new hnew
              cases hw : H.write lo b o new with
              | none => rw [hw] at hv; cases hv
              | some H1 =>
                rw [hw] at hv
                cases hv
                rw [hx0] at hx
                exact step_copy ht hk hnew hw hx hy hR hlo
            · cases hv
          · cases hv
        · cases hp
      · rename_i x t trest hargs hts _
        have ea : args = #[x] := Array.toList_inj.1 (by simpa using hargs)
        have et : ts = (t :: trest).toArray := Array.toList_inj.1 (by simpa using hts)
        subst ea; subst et
        have hx := hra x (by simp)
        show StepSim P (do pure (.value (← Builtin.clear_ (t :: trest).toArray type ((#[x] : Array Operand).map a.eval)))) L0 lo m H w v H'
        rw [map_one]
        split at hp
        · rename_i agg size zero bytes ht
          split at hp
          · rename_i hz
            cases hp
            simp only [Bool.and_eq_true, beq_iff_eq, decide_eq_true_eq] at hz
            obtain ⟨⟨⟨z1, z2⟩, z3⟩, z4⟩ := hz
            obtain ⟨e, hte, htie⟩ := elemInfo_spec ht
            obtain ⟨i, de, zz, hi, _, hzz, rfl, rfl, rfl, rfl⟩ := tinfo_spec htie
            simp only [pop] at hv
            split at hv
            · rename_i n c hx0
              cases hv
              rw [hx0] at hx
              generalize a.eval x = rx at hx ⊢
              cases hx
              exact step_clear0 hte .snil hR
            · rename_i b o n c hx0
              rw [hx0] at hx
              split at hv
              · rename_i hn0
                cases hv
                subst hn0
                exact step_clear0 hte hx hR
              · rename_i hn0
                cases hw : H.write lo b o (zcells n (pcells zz)) with
                | none => rw [hw] at hv; cases hv
                | some H1 =>
                  rw [hw] at hv
                  cases hv
                  exact step_clear hte hi hzz hn0 hw hx z2 z4 hR hlo
            · cases hv
          · cases hp
        · cases hp
      · cases hp
    | value f =>
      cases f with
      | func g => cases hp; cases hv
      | tmp t =>
        cases hp
        simp only [pop] at hv
        split at hv <;> cases hv
      | const c => cases hp
      | global g => cases hp
    | invoke r s => cases hp
  | _ => cases hp
def CallOk (P : Program) (f : Nat) : Prop := ∃ fn, P.funcs[f]? = some fn ∧ (fn.name == "runtime.NumGoroutine") = false ∧ fn.body.isNone = false
theorem run_callFunc {f : Nat} {args : Array Value} (h : CallOk P f) : (callFunc f args).run P w = .ok (.enter f args) w := by
  obtain ⟨fn, h1, h2, h3⟩ := h
  unfold callFunc
  rw [Sem.run_bind, run_program, Result.andThen_ok, h1]
  simp [h2, h3]
theorem map_none {α β : Type} {o : Option α} {f : α → β} {x : β} (h : o.map f = some x) (hf : ∀ y, f y ≠ x) : False := by
  cases o with
  | none => cases h
  | some y => injection h with h; exact hf y h
theorem prep_call {op : Op} {g : Nat} {as : List Operand} (h : prepOp P op = some (.call g as)) : ∃ args ts, op = .call ⟨.value (.func g), args, ts⟩ ∧ as = args.toList := by
  unfold prepOp at h
  split at h
  case isFalse => cases h
  cases op with
  | call c =>
    obtain ⟨callee, args, ts⟩ := c
    cases callee with
    | builtin b =>
      exfalso
      simp only [prepBuiltin] at h
      repeat' (split at h)
      all_goals cases h
    | value f =>
      cases f with
      | func g' => cases h; exact ⟨args, ts, rfl, rfl⟩
      | _ => cases h
    | invoke r s => cases h
  | _ =>
    exfalso
    dsimp only at h
    try unfold prepBin at h
    repeat' (split at h)
    all_goals first
      | contradiction
      | (cases h; done)
      | exact map_none h (by intro y h; cases h)
theorem prep_callv {op : Op} {fv : Operand} {as : List Operand} (h : prepOp P op = some (.callv fv as)) : ∃ args ts, op = .call ⟨.value fv, args, ts⟩ ∧ as = args.toList := by
  unfold prepOp at h
  split at h
  case isFalse => cases h
  cases op with
  | call c =>
    obtain ⟨callee, args, ts⟩ := c
    cases callee with
    | builtin b =>
      exfalso
      simp only [prepBuiltin] at h
      repeat' (split at h)
      all_goals cases h
    | value f =>
      cases f with
      | tmp g' => cases h; exact ⟨args, ts, rfl, rfl⟩
      | _ => cases h
    | invoke r s => cases h
  | _ =>
    exfalso
    dsimp only at h
    try unfold prepBin at h
    repeat' (split at h)
    all_goals first
      | contradiction
      | (cases h; done)
      | exact map_none h (by intro y h; cases h)
theorem pop_call_key {po : POp} {ρ : Env} {lo f : Nat} {args : List Value} (hv : pop lo po ρ H = some (.call f args)) : (∃ g as, po = .call g as) ∨ (∃ g as, po = .callv g as) := by
  by_cases hpure : looksPure po = true
  · rw [pop_pure hpure] at hv
    cases hpp : ppure po ρ with
    | none => rw [hpp] at hv; cases hv
    | some u => rw [hpp] at hv; cases hv
  cases po <;> first | exact absurd rfl hpure | exact .inl ⟨_, _, rfl⟩ | exact .inr ⟨_, _, rfl⟩ | skip
  all_goals
    exfalso
    simp only [pop] at hv
    repeat' (split at hv)
    all_goals first
      | (cases hv; done)
      | (revert hv; generalize Heap.write _ _ _ _ _ = q; cases q <;> intro hv <;> cases hv)
      | (revert hv; generalize pload _ _ _ _ = q; cases q <;> intro hv <;> cases hv)
      | (revert hv; generalize psub _ _ _ _ _ _ = q; cases q <;> intro hv <;> cases hv)
      | (revert hv; generalize pappend _ _ _ _ _ _ _ = q; cases q <;> intro hv <;> cases hv)
      | (revert hv; generalize pbytes _ = q; cases q <;> intro hv <;> cases hv)
theorem sim_pcall {o : Oper} {po : POp} {ρ : Env} {a : Act} {lo f : Nat} {args : List Value} (hp : prepOp P o.op = some po) (hv : pop lo po ρ H = some (.call f args)) (hr : ∀ x ∈ o.op.operands, RV m (ev ρ x) (a.eval x)) :
    ∃ rargs, RL m args rargs ∧ (CallOk P f → ∀ w, (execOp a.eval o).run P w = .ok (.enter f rargs.toArray) w) := by
  have key := pop_call_key hv
  obtain ⟨dst, op, type, pos, after, guard⟩ := o
  simp only at hp hr ⊢
  rcases key with ⟨g, as, rfl⟩ | ⟨g, as, rfl⟩
  · obtain ⟨cargs, ts, rfl, rfl⟩ := prep_call hp
    cases hv
    refine ⟨cargs.toList.map a.eval, RL.map fun x hx => hr x (by simp [Op.operands, Call.operands]; right; simpa using hx), fun hc w => ?_⟩
    have e1 : (cargs.toList.map a.eval).toArray = cargs.map a.eval := Array.toList_inj.1 (by rw [Array.toList_map])
    rw [e1]
    have e2 : execOp a.eval ⟨dst, .call ⟨.value (.func f), cargs, ts⟩, type, pos, after, guard⟩ = callFunc f ((#[] ++ cargs.map a.eval) ++ #[]) := rfl
    rw [e2, run_callFunc hc]
    simp
  · obtain ⟨cargs, ts, rfl, rfl⟩ := prep_callv hp
    have hg := hr g (by simp [Op.operands, Call.operands])
    simp only [pop] at hv
    split at hv
    · rename_i f' first caps hfv
      cases hv
      rw [hfv] at hg
      generalize hrg : a.eval g = rg at hg
      cases hg with
      | func fn f1 g1 c1 d1 h1 h2 h3 h4 =>
        refine ⟨g1.toList ++ cargs.toList.map a.eval ++ d1.toList, ((RL.arr h1 h2).append (RL.map fun x hx => hr x (by simp [Op.operands, Call.operands]; right; simpa using hx))).append (RL.arr h3 h4), fun hc w => ?_⟩
        have e1 : (g1.toList ++ cargs.toList.map a.eval ++ d1.toList).toArray = (g1 ++ cargs.map a.eval) ++ d1 := by
          apply Array.ext'
          simp
        rw [e1]
        have e2 : (execOp a.eval ⟨dst, .call ⟨.value g, cargs, ts⟩, type, pos, after, guard⟩) = (do let d ← Deferred.ofValue (a.eval g) (cargs.map a.eval); invoke d.target d.args) := rfl
        rw [e2, hrg]
        show (callFunc f ((g1 ++ cargs.map a.eval) ++ d1)).run P w = _
        exact run_callFunc hc
    · cases hv
end
end Go.PM
/- What a run of the pure machine leaves alone: everything below its bound; its heap only grows. -/
namespace Go.PM
section
variable {H : Heap}
theorem ext_quiet {lo : Nat} {H' : Heap} (h : Ext H.length H H') : Ext lo H H' :=
  ⟨h.len, fun b _ hl => h.low b hl hl, h.liv⟩
theorem ext_pappend {lo size bytes add : Nat} {x v : Value} {new : List Value} {H' : Heap} (h : pappend lo size bytes x add new H = some (v, H')) : Ext lo H H' := by
  unfold pappend at h
  split at h
  case isFalse => cases h
  split at h
  · split at h
    · split at h
      · cases h; exact Ext.refl _ _
      · split at h
        · cases h; exact ext_alloc _ _ _
        · cases h
    · cases h
  · split at h
    · split at h
      · split at h
        · split at h
          · cases h; exact Ext.refl _ _
          · cases hw : Heap.write H lo _ _ new with
            | none => rw [hw] at h; cases h
            | some H1 => rw [hw] at h; cases h; exact ext_write hw
        · split at h
          · split at h
            · split at h
              · rename_i hlb
                cases h
                exact ext_moved hlb
              · cases h
            · cases h; exact ext_alloc _ _ _
          · cases h
      · cases h
    · cases h
  · cases h
theorem ext_psub {lo size : Nat} {x v : Value} {l h' mx : Option Value} {H' : Heap} (h : psub size x l h' mx H = some (v, H')) : Ext lo H H' := by
  unfold psub at h
  repeat' (split at h)
  all_goals first
    | (cases h; done)
    | (cases h; exact Ext.refl _ _)
    | (cases h; exact ext_alloc _ _ _)
theorem ext_pop {lo : Nat} {po : POp} {ρ : Env} {v : Value} {H' : Heap} (h : pop lo po ρ H = some (.val v H')) : Ext lo H H' := by
  by_cases hpure : looksPure po = true
  · rw [pop_pure hpure] at h
    obtain ⟨_, rfl⟩ := pure_out h
    exact Ext.refl _ _
  cases po <;> first | exact absurd rfl hpure | skip
  case load agg size p =>
    simp only [pop] at h
    cases hl : pload agg size (ev ρ p) H with
    | none => rw [hl] at h; cases h
    | some u => rw [hl] at h; cases h; exact Ext.refl _ _
  case sub size x l hh mx =>
    simp only [pop] at h
    cases hs : psub size (ev ρ x) (l.map (ev ρ)) (hh.map (ev ρ)) (mx.map (ev ρ)) H with
    | none => rw [hs] at h; cases h
    | some q =>
      obtain ⟨u, H1⟩ := q
      rw [hs] at h; cases h; exact ext_psub hs
  case b2s x =>
    simp only [pop] at h
    split at h
    · cases h; exact Ext.refl _ _
    · split at h
      · rename_i cs _
        cases hb : pbytes cs with
        | none => rw [hb] at h; cases h
        | some bs => rw [hb] at h; cases h; exact Ext.refl _ _
      · cases h
    · cases h
  case new z => cases h; exact ext_alloc _ _ _
  case box x =>
    simp only [pop] at h
    split at h
    · cases h; exact ext_alloc _ _ _
    · cases h
  case make z b l c =>
    simp only [pop] at h
    split at h
    · split at h
      · cases h; exact ext_alloc _ _ _
      · cases h
    · cases h
  case lit z n parts =>
    simp only [pop] at h
    split at h
    · split at h
      · cases h; exact ext_alloc _ _ _
      · cases h
    · cases h
  case call f args => cases h
  case callv f args =>
    simp only [pop] at h
    split at h <;> cases h
  case store size p x =>
    simp only [pop] at h
    split at h
    · rename_i b o _
      split at h
      · cases hw : H.write lo b o (pcells (ev ρ x)) with
        | none => rw [hw] at h; cases h
        | some H1 => rw [hw] at h; cases h; exact ext_write hw
      · cases h
    · cases h
  case app size bytes x y =>
    simp only [pop] at h
    split at h
    · rename_i n _
      split at h
      · rename_i new _
        cases ha : pappend lo size bytes (ev ρ x) n new H with
        | none => rw [ha] at h; cases h
        | some q =>
          obtain ⟨u, H1⟩ := q
          rw [ha] at h; cases h; exact ext_pappend ha
      · cases h
    · cases h
  case appz z bytes x n =>
    simp only [pop] at h
    split at h
    · rename_i k _
      split at h
      · cases ha : pappend lo z.length bytes (ev ρ x) k.toNat (zcells k.toNat z) H with
        | none => rw [ha] at h; cases h
        | some q =>
          obtain ⟨u, H1⟩ := q
          rw [ha] at h; cases h; exact ext_pappend ha
      · cases h
    · cases h
  case copy size x y =>
    simp only [pop] at h
    split at h
    · cases h; exact Ext.refl _ _
    · rename_i b o d _ s _ _
      split at h
      · rename_i new _
        cases hw : H.write lo b o new with
        | none => rw [hw] at h; cases h
        | some H1 => rw [hw] at h; cases h; exact ext_write hw
      · cases h
    · cases h
  case clear z x =>
    simp only [pop] at h
    split at h
    · cases h; exact Ext.refl _ _
    · rename_i b o n _ _
      split at h
      · cases h; exact Ext.refl _ _
      · cases hw : H.write lo b o (zcells n z) with
        | none => rw [hw] at h; cases h
        | some H1 => rw [hw] at h; cases h; exact ext_write hw
    · cases h
def ExtCaller (call : Caller) : Prop := ∀ f args lo H v H', call f args lo H = some (v, H') → Ext lo H H'
theorem ext_pval {call : Caller} (hc : ExtCaller call) {lo : Nat} {i : PI} {ρ : Env} {v : Value} {H' : Heap} (h : pval call lo i ρ H = some (v, H')) : Ext lo H H' := by
  unfold pval at h
  split at h
  · cases h
  · cases h; exact Ext.refl _ _
  · split at h
    · split at h
      · rename_i hp
        cases h
        exact ext_pop hp
      · rename_i f args _
        have := hc _ _ _ _ _ _ h
        split at this
        · exact ext_quiet this
        · exact this
      · cases h
    · cases h
theorem pstep_spec {call : Caller} {lo : Nat} {i : PI} {ρ ρ' : Env} {H' : Heap} (h : pstep call lo i ρ H = some (ρ', H')) : ∃ v, pval call lo i ρ H = some (v, H') ∧ ρ' = put ρ i.dst v := by
  unfold pstep at h
  split at h
  · rename_i v H1 hv
    cases h
    exact ⟨v, hv, rfl⟩
  · cases h
theorem ext_pstep {call : Caller} (hc : ExtCaller call) {lo : Nat} {i : PI} {ρ ρ' : Env} {H' : Heap} (h : pstep call lo i ρ H = some (ρ', H')) : Ext lo H H' := by
  obtain ⟨v, h1, _⟩ := pstep_spec h
  exact ext_pval hc h1
theorem ext_psteps {call : Caller} (hc : ExtCaller call) {lo : Nat} : ∀ (is : List PI) {ρ ρ' : Env} {H H' : Heap}, psteps call lo is ρ H = some (ρ', H') → Ext lo H H'
  | [], ρ, ρ', H, H', h => by cases h; exact Ext.refl _ _
  | i :: is, ρ, ρ', H, H', h => by
    rw [psteps] at h
    split at h
    · rename_i h1
      exact (ext_pstep hc h1).trans (ext_psteps hc is h)
    · cases h
theorem ext_ploop {lo : Nat} {body : Env → Heap → Option (Ex × Env × Heap)} (hb : ∀ ρ H x ρ' H', body ρ H = some (x, ρ', H') → Ext lo H H') : ∀ (n : Nat) {ρ ρ' : Env} {H H' : Heap} {x : Ex}, ploop body n ρ H = some (x, ρ', H') → Ext lo H H'
  | 0, _, _, _, _, _, h => by cases h
  | n + 1, ρ, ρ', H, H', x, h => by
    rw [ploop] at h
    split at h
    · rename_i h1
      exact (hb _ _ _ _ _ h1).trans (ext_ploop hb n h)
    · exact hb _ _ _ _ _ h
theorem ext_pcode {call : Caller} (hc : ExtCaller call) {lo n : Nat} : ∀ (c : PCode) {ρ ρ' : Env} {H H' : Heap} {x : Ex}, pcode call lo n c ρ H = some (x, ρ', H') → Ext lo H H'
  | .skip, _, _, _, _, _, h => by cases h; exact Ext.refl _ _
  | .reg ops, ρ, ρ', H, H', x, h => by
    rw [pcode] at h
    cases hp : psteps call lo ops ρ H with
    | none => rw [hp] at h; cases h
    | some q =>
      obtain ⟨ρ1, H1⟩ := q
      rw [hp] at h; cases h
      exact ext_psteps hc ops hp
  | .seq a b, ρ, ρ', H, H', x, h => by
    rw [pcode] at h
    split at h
    · rename_i h1
      exact (ext_pcode hc a h1).trans (ext_pcode hc b h)
    · exact ext_pcode hc a h
  | .cond c a b, ρ, ρ', H, H', x, h => by
    rw [pcode] at h
    split at h
    · split at h
      · exact ext_pcode hc a h
      · exact ext_pcode hc b h
    · cases h
  | .block id a, ρ, ρ', H, H', x, h => by
    rw [pcode] at h
    split at h
    · rename_i h1
      split at h <;> (cases h; exact ext_pcode hc a h1)
    · exact ext_pcode hc a h
  | .loop a, ρ, ρ', H, H', x, h => by
    rw [pcode] at h
    exact ext_ploop (fun ρ H x ρ' H' h => ext_pcode hc a h) n h
  | .exit id, _, _, _, _, _, h => by cases h; exact Ext.refl _ _
  | .ret, _, _, _, _, _, h => by cases h; exact Ext.refl _ _
theorem ext_pcall (E : Cfg) (T : Tab) : ∀ n, ExtCaller (pcall E T n)
  | 0 => fun _ _ _ _ _ _ h => by cases h
  | n + 1 => fun f args lo H v H' h => by
    rw [pcall] at h
    split at h
    · rename_i p _
      cases hp : p args H with
      | none => rw [hp] at h; cases h
      | some u => rw [hp] at h; cases h; exact Ext.refl _ _
    · split at h
      · cases h
      · rename_i pf _
        split at h
        · split at h
          · rename_i ρ1 H1 h1
            cases hr : presult pf.res ρ1 H1 with
            | none => rw [hr] at h; cases h
            | some u => rw [hr] at h; cases h; exact ext_pcode (ext_pcall E T n) _ h1
          · rename_i ρ1 H1 h1
            cases hr : presult pf.res ρ1 H1 with
            | none => rw [hr] at h; cases h
            | some u => rw [hr] at h; cases h; exact ext_pcode (ext_pcall E T n) _ h1
          · cases h
        · cases h
end
end Go.PM
/- What has been checked of a statement of open order, in words that a proof can use. -/
namespace Go.PM
theorem mapM_spec {α β : Type} {f : α → Option β} : ∀ {l : List α} {ys : List β}, l.mapM f = some ys → ys.length = l.length ∧ ∀ i (h : i < l.length), f l[i] = ys[i]?
  | [], ys, h => by
    simp at h
    subst h
    exact ⟨rfl, fun i h => absurd h (by simp)⟩
  | x :: l, ys, h => by
    simp only [List.mapM_cons, Option.pure_def, Option.bind_eq_bind] at h
    cases h1 : f x with
    | none => rw [h1] at h; cases h
    | some y =>
      rw [h1] at h
      cases h2 : l.mapM f with
      | none => rw [h2] at h; cases h
      | some zs =>
        rw [h2] at h
        cases h
        obtain ⟨k1, k2⟩ := mapM_spec h2
        refine ⟨by simp [k1], fun i hi => ?_⟩
        cases i with
        | zero => simpa using h1
        | succ i => simpa using k2 i (by simpa using hi)
theorem mapM_get {α β : Type} {f : α → Option β} {l : List α} {ys : List β} (h : l.mapM f = some ys) {i : Nat} {x : α} (hx : l[i]? = some x) : ∃ y, ys[i]? = some y ∧ f x = some y := by
  obtain ⟨h1, h2⟩ := mapM_spec h
  obtain ⟨hlt, rfl⟩ := List.getElem?_eq_some_iff.1 hx
  have hlt' : i < ys.length := by omega
  refine ⟨ys[i], List.getElem?_eq_getElem hlt', ?_⟩
  rw [h2 i hlt, List.getElem?_eq_getElem hlt']
def Pair (E : Cfg) (ops : List Oper) (M : List Nat) (i j : Nat) (pi pj : POp) (l : List (Operand × Operand)) : Prop :=
  match clsOf E pi, clsOf E pj with
  | .look, .write | .write, .look => ahead M i j = true ∨ ∃ a b, touch pi = some a ∧ touch pj = some b ∧ unwritten ops i j a = true ∧ (a, b) ∈ l
  | .write, .write | .quiet, .write | .write, .quiet => ahead M i j = true
  | _, _ => True
theorem Pair.mono {E : Cfg} {ops : List Oper} {M : List Nat} {i j : Nat} {pi pj : POp} {l l' : List (Operand × Operand)} (h : Pair E ops M i j pi pj l) (hl : ∀ x ∈ l, x ∈ l') : Pair E ops M i j pi pj l' := by
  unfold Pair at h ⊢
  split at h
  all_goals first
    | exact h
    | exact h.imp id fun ⟨a, b, h1, h2, h3, h4⟩ => ⟨a, b, h1, h2, h3, hl _ h4⟩
theorem conflicts_spec {E : Cfg} {ops : List Oper} {ps : List POp} {M : List Nat} {j : Nat} {pj : POp} {l : List (Operand × Operand)} (h : conflicts E ops ps M j pj = some l) :
    ∀ i, i < j → ∀ pi, ps[i]? = some pi → Pair E ops M i j pi pj l := by
  have key : ∀ (is : List Nat) (l : List (Operand × Operand)), (is.foldr (fun i acc => match acc, ps[i]? with
    | some l, some pi =>
      match clsOf E pi, clsOf E pj with
      | .look, .write | .write, .look =>
        if ahead M i j then some l
        else match touch pi, touch pj with
          | some a, some b => if unwritten ops i j a then some ((a, b) :: l) else none
          | _, _ => none
      | .write, .write | .quiet, .write | .write, .quiet => if ahead M i j then some l else none
      | _, _ => some l
    | _, _ => none) (some [])) = some l → ∀ i ∈ is, ∀ pi, ps[i]? = some pi → Pair E ops M i j pi pj l := by
    intro is
    induction is with
    | nil => intro l _ i hi; cases hi
    | cons i0 is ih =>
      intro l h i hi pi hpi
      rw [List.foldr_cons] at h
      revert h
      generalize hacc : is.foldr _ (some []) = acc
      intro h
      cases acc with
      | none => cases h
      | some l0 =>
        have ih' := ih l0 hacc
        cases hp0 : ps[i0]? with
        | none => rw [hp0] at h; cases h
        | some p0 =>
          rw [hp0] at h
          simp only at h
          have step : (∀ x ∈ l0, x ∈ l) ∧ Pair E ops M i0 j p0 pj l := by
            unfold Pair
            split at h
            · rename_i c1 c2
              try rw [c1, c2]
              split at h
              · rename_i ha; cases h; exact ⟨fun x hx => hx, .inl ha⟩
              · split at h
                · rename_i a b ta tb
                  split at h
                  · rename_i hu; cases h; exact ⟨fun x hx => List.mem_cons_of_mem _ hx, .inr ⟨a, b, ta, tb, hu, List.mem_cons_self⟩⟩
                  · cases h
                · cases h
            · rename_i c1 c2
              try rw [c1, c2]
              split at h
              · rename_i ha; cases h; exact ⟨fun x hx => hx, .inl ha⟩
              · split at h
                · rename_i a b ta tb
                  split at h
                  · rename_i hu; cases h; exact ⟨fun x hx => List.mem_cons_of_mem _ hx, .inr ⟨a, b, ta, tb, hu, List.mem_cons_self⟩⟩
                  · cases h
                · cases h
            · rename_i c1 c2
              try rw [c1, c2]
              split at h
              · rename_i ha; cases h; exact ⟨fun x hx => hx, ha⟩
              · cases h
            · rename_i c1 c2
              try rw [c1, c2]
              split at h
              · rename_i ha; cases h; exact ⟨fun x hx => hx, ha⟩
              · cases h
            · rename_i c1 c2
              try rw [c1, c2]
              split at h
              · rename_i ha; cases h; exact ⟨fun x hx => hx, ha⟩
              · cases h
            · cases h
              refine ⟨fun x hx => hx, ?_⟩
              first | trivial | (split <;> first | trivial | (simp_all; done)) | (simp_all; done)
          rcases List.mem_cons.1 hi with rfl | hi
          · rw [hp0] at hpi
            cases hpi
            exact step.2
          · exact (ih' i hi pi hpi).mono step.1
  exact fun i hi pi hpi => key _ l h i (List.mem_range.2 hi) pi hpi
structure PIok (P : Program) (E : Cfg) (n : Nat) (ops : List Oper) (i : Nat) (o : Oper) (p : POp) (pi : PI) : Prop where
  prep : prepOp P o.op = some p
  dst : pi.dst = o.dst
  op : pi.op = p
  guard : guardOf ops i o = some pi.g
  bound : ∀ d, o.dst = some d → d < n
structure PIdraw (E : Cfg) (ops : List Oper) (ps : List POp) (M : List Nat) (i : Nat) (o : Oper) (p : POp) (pi : PI) : Prop where
  back : ∀ e ∈ o.after.toList, Region.binds .any e = true → e.on < i
  guard : ∀ j w, o.guard = some (j, w) → (M.getD i 0).testBit j = true
  temps : ∀ t ∈ o.dst.toList ++ readsOf ops o, ∀ k ok, ops[k]? = some ok → ok.dst = some t → k = i ∨ ahead M i k = true
  mask : M.getD i 0 = edgesMask o M
  quiet : pi.quiet = (match clsOf E p with | .quiet => true | _ => false)
  pairs : ∀ k, k < i → ∀ pk, ps[k]? = some pk → Pair E ops M k i pk p pi.cf
theorem prepPI_spec {P : Program} {E : Cfg} {n : Nat} {ops : List Oper} {ps : List POp} {M : List Nat} {draw : Bool} {i : Nat} {pi : PI} (h : prepPI E ops ps M n draw i = some pi) {o : Oper} {p : POp} (ho : ops[i]? = some o) (hp : ps[i]? = some p)
    (hprep : prepOp P o.op = some p) : PIok P E n ops i o p pi ∧ (draw = true → PIdraw E ops ps M i o p pi) ∧ (draw = false → pi.quiet = false ∧ pi.cf = []) := by
  unfold prepPI at h
  rw [ho, hp] at h
  simp only at h
  split at h
  case isFalse => cases h
  rename_i hb
  have hbound : ∀ d, o.dst = some d → d < n := by
    intro d hd
    rw [hd] at hb
    simpa [dstOk] using hb
  split at h
  · cases h
  · rename_i g hg
    cases draw with
    | false =>
      simp only [Bool.false_eq_true, if_false] at h
      cases h
      exact ⟨⟨hprep, rfl, rfl, hg, hbound⟩, (fun h => by cases h), fun _ => ⟨rfl, rfl⟩⟩
    | true =>
      simp only [if_true] at h
      split at h
      case isFalse => cases h
      rename_i hc
      simp only [Bool.and_eq_true, beq_iff_eq] at hc
      obtain ⟨⟨⟨c1, c2⟩, c3⟩, c4⟩ := hc
      cases hcf : conflicts E ops ps M i p with
      | none => rw [hcf] at h; cases h
      | some cf =>
        rw [hcf] at h
        cases h
        refine ⟨⟨hprep, rfl, rfl, hg, hbound⟩, fun _ => ⟨fun e he hbd => ?_, fun j w hj => ?_, fun t ht k ok hk hkd => ?_, c4, rfl, conflicts_spec hcf⟩, (fun h => by cases h)⟩
        · have := List.all_eq_true.1 c1 e he
          simpa [hbd] using this
        · rw [hj] at c2
          exact c2
        · have h1 := List.all_eq_true.1 c3 t ht
          have hk' : k < ops.length := (List.getElem?_eq_some_iff.1 hk).1
          have h2 := List.all_eq_true.1 h1 k (List.mem_range.2 hk')
          rw [hk] at h2
          simp only [Bool.or_eq_true, bne_iff_ne, ne_eq, beq_iff_eq] at h2
          rcases h2 with (h2 | h2) | h2
          · exact absurd hkd h2
          · exact .inl h2
          · exact .inr h2
structure RegOk (P : Program) (E : Cfg) (n : Nat) (ops : List Oper) (draw : Bool) (pis : List PI) (ps : List POp) (M : List Nat) : Prop where
  plen : ps.length = ops.length
  ilen : pis.length = ops.length
  each : ∀ i o, ops[i]? = some o → ∃ p pi, ps[i]? = some p ∧ pis[i]? = some pi ∧ PIok P E n ops i o p pi ∧ (draw = true → PIdraw E ops ps M i o p pi) ∧ (draw = false → pi.quiet = false ∧ pi.cf = [])
theorem prepRegion_spec {P : Program} {E : Cfg} {n : Nat} {ops : Array Oper} {draw : Bool} {pis : List PI} (h : prepRegion P E n ops draw = some pis) : ∃ ps M, RegOk P E n ops.toList draw pis ps M := by
  unfold prepRegion at h
  split at h
  · rename_i ps hps
    simp only at h
    generalize (if draw = true then masksGo ops.toList [] else []) = M at h
    obtain ⟨h1, h2⟩ := mapM_spec hps
    obtain ⟨h3, h4⟩ := mapM_spec h
    refine ⟨ps, M, h1, by simpa using h3, fun i o ho => ?_⟩
    have hlt := (List.getElem?_eq_some_iff.1 ho).1
    obtain ⟨p, hp, hprep⟩ := mapM_get hps ho
    have hr : (List.range ops.size)[i]? = some i := by rw [List.getElem?_range]; simpa using hlt
    obtain ⟨pi, hpi, hpp⟩ := mapM_get h hr
    exact ⟨p, pi, hp, hpi, prepPI_spec hpp ho hp hprep⟩
  · cases h
theorem edgesMask_bit {o : Oper} {M : List Nat} {i : Nat} (h : (edgesMask o M).testBit i = true) : ∃ e ∈ o.after.toList, Region.binds .any e = true ∧ (e.on = i ∨ (M.getD e.on 0).testBit i = true) := by
  unfold edgesMask at h
  revert h
  generalize o.after.toList = es
  induction es with
  | nil => intro h; simp at h
  | cons e es ih =>
    intro h
    rw [List.foldr_cons] at h
    split at h
    · rename_i hb
      rw [Nat.testBit_or, Nat.testBit_or, Bool.or_eq_true, Bool.or_eq_true] at h
      rcases h with (h | h) | h
      · obtain ⟨e', h1, h2⟩ := ih h
        exact ⟨e', List.mem_cons_of_mem _ h1, h2⟩
      · refine ⟨e, List.mem_cons_self, hb, .inl ?_⟩
        rw [Nat.testBit_two_pow] at h
        simpa using h
      · exact ⟨e, List.mem_cons_self, hb, .inr h⟩
    · obtain ⟨e', h1, h2⟩ := ih h
      exact ⟨e', List.mem_cons_of_mem _ h1, h2⟩
theorem closed_anc {ops : List Oper} {M : List Nat} {S : Nat → Prop} (hb : ∀ i o, ops[i]? = some o → ∀ e ∈ o.after.toList, Region.binds .any e = true → e.on < i) (hm : ∀ i o, ops[i]? = some o → M.getD i 0 = edgesMask o M)
    (hS : ∀ i o, ops[i]? = some o → S i → ∀ e ∈ o.after.toList, Region.binds .any e = true → S e.on) : ∀ j o, ops[j]? = some o → (∀ e ∈ o.after.toList, Region.binds .any e = true → S e.on) → ∀ i, (M.getD j 0).testBit i = true → S i := by
  intro j
  induction j using Nat.strongRecOn with
  | _ j ih =>
    intro o ho hj i hi
    rw [hm j o ho] at hi
    obtain ⟨e, he, hbd, h1⟩ := edgesMask_bit hi
    rcases h1 with rfl | h1
    · exact hj e he hbd
    · have hlt := hb j o ho e he hbd
      have hjl := (List.getElem?_eq_some_iff.1 ho).1
      have hel : e.on < ops.length := by omega
      exact ih e.on hlt ops[e.on] (List.getElem?_eq_getElem hel) (hS e.on _ (List.getElem?_eq_getElem hel) (hj e he hbd)) i h1
end Go.PM
/- One operation in its place: the model's step comes to a related state. -/
namespace Go.PM
def CallerSim (P : Program) (L0 : Nat) (call : Caller) : Prop :=
  ∀ f args lo H v H', call f args lo H = some (v, H') → ∀ m w rargs, Rel m L0 H w → L0 ≤ lo → L0 ≤ H.length → RL m args rargs → (∀ b, H.length ≤ b → b < H'.length → m b = none) →
    CallOk P f ∧ Calls P f rargs.toArray w fun e w' => ∃ m' rv, e = .returned rv ∧ RV m' v rv ∧ Rel m' L0 H' w' ∧ Trans lo m H w m' H' w'
section
variable {P : Program} {m : PMap} {L0 : Nat} {H : Heap} {w : World}
theorem pval_cases {call : Caller} {lo : Nat} {i : PI} {ρ : Env} {v : Value} {H' : Heap} (h : pval call lo i ρ H = some (v, H')) :
    (wantedP i.g ρ = some false ∧ v = undef ∧ H' = H) ∨
    (wantedP i.g ρ = some true ∧ i.cf.all (keepsOff ρ) = true ∧ (pop lo i.op ρ H = some (.val v H') ∨
      ∃ f args, pop lo i.op ρ H = some (.call f args) ∧ call f args (if i.quiet then H.length else lo) H = some (v, H'))) := by
  unfold pval at h
  split at h
  · cases h
  · rename_i hw; cases h; exact .inl ⟨hw, rfl, rfl⟩
  · rename_i hw
    split at h
    · rename_i hcf
      refine .inr ⟨hw, hcf, ?_⟩
      split at h
      · rename_i hp; cases h; exact .inl hp
      · rename_i f args hp; exact .inr ⟨f, args, hp, h⟩
      · cases h
    · cases h
theorem getD_bool {t : Array Value} {d : Nat} {b : Bool} (h : t.getD d undef = .bool b) : t[d]? = some (.bool b) := by
  rcases Nat.lt_or_ge d t.size with hd | hd
  · simp [hd] at h ⊢
    exact h
  · simp [Array.getElem?_eq_none hd, undef] at h
theorem wanted_rel {ops : Array Oper} {i : Nat} {o : Oper} {g : Option (Nat × Bool)} {ρ : Env} {a : Act} {t : Bool} (hg : guardOf ops.toList i o = some g) (hw : wantedP g ρ = some t)
    (hr : ∀ d ∈ readsOf ops.toList o, RV m (ρ d) (a.tmps.getD d undef)) : Region.wanted o (yielded ops a.tmps) = t := by
  unfold guardOf at hg
  unfold Region.wanted
  cases hgd : o.guard with
  | none =>
    rw [hgd] at hg
    cases hg
    cases hw
    rfl
  | some jw =>
    obtain ⟨j, want⟩ := jw
    rw [hgd] at hg
    simp only at hg
    split at hg
    · split at hg
      · rename_i d hd
        cases hg
        have hmem : d ∈ readsOf ops.toList o := by
          unfold readsOf
          rw [hgd]
          simp only [List.mem_append]
          right
          rw [hd]
          simp
        have hrd := hr d hmem
        simp only [wantedP] at hw
        split at hw
        · rename_i b hb
          cases hw
          rw [hb] at hrd
          generalize hx : a.tmps.getD d undef = x at hrd
          cases hrd
          have hy : yielded ops a.tmps j = some b := by
            unfold yielded
            have hd' : (ops[j]?).bind (·.dst) = some d := by simpa using hd
            rw [hd', Option.bind_some, getD_bool hx]
          simp only [hy]
          cases b <;> cases want <;> rfl
        · rename_i vs hb
          cases hw
          rw [hb] at hrd
          generalize hx : a.tmps.getD d undef = x at hrd
          obtain ⟨ws, rfl⟩ : ∃ ws, x = .tuple ws := by cases hrd; exact ⟨_, rfl⟩
          have hd' : (ops[j]?).bind (·.dst) = some d := by simpa using hd
          have hy : yielded ops a.tmps j = none := by
            unfold yielded
            rw [hd', Option.bind_some]
            rcases Nat.lt_or_ge d a.tmps.size with hlt | hlt
            · have : a.tmps[d]? = some (.tuple ws) := by rw [← hx]; simp [hlt]
              rw [this]
            · rw [Array.getElem?_eq_none hlt]
          simp only [hy]
          rfl
        · cases hw
      · cases hg
    · cases hg
theorem pop_lo {E : Cfg} {p : POp} {lo lo' : Nat} {ρ : Env} (h : clsOf E p = .quiet) : pop lo p ρ H = pop lo' p ρ H := by
  cases p <;> first | rfl | (simp [clsOf] at h; done)
theorem reads_operand {ops : List Oper} {o : Oper} {t : Nat} (h : Operand.tmp t ∈ o.op.operands) : t ∈ readsOf ops o := by
  unfold readsOf tmpsOf
  rw [List.mem_append]
  left
  rw [List.mem_filterMap]
  exact ⟨.tmp t, by simpa using h, rfl⟩
theorem prep_opnds {op : Op} {p : POp} (h : prepOp P op = some p) : ∀ x ∈ op.operands, opndOk x = true := by
  intro x hx
  unfold prepOp at h
  split at h
  · rename_i hall
    obtain ⟨i, hi, rfl⟩ := Array.getElem_of_mem hx
    exact Array.all_eq_true.1 hall i hi
  · cases h
theorem sim_op {E : Cfg} {n lo k : Nat} {ops : Array Oper} {o : Oper} {p : POp} {pi : PI} {call : Caller} {ρ : Env} {v : Value} {H' : Heap} {a : Act} {K : Act → World → Prop} {Q : Exit → Act → World → Prop} (ho : ops[k]? = some o) (hok : PIok P E n ops.toList k o p pi)
    (hq : pi.quiet = true → clsOf E p = .quiet) (hv : pval call lo pi ρ H = some (v, H')) (hr : ∀ t ∈ readsOf ops.toList o, RV m (ρ t) (a.tmps.getD t undef)) (hR : Rel m L0 H w) (hlo : L0 ≤ lo) (hlen : L0 ≤ H.length)
    (hf : ∀ b, H.length ≤ b → b < H'.length → m b = none) (hcall : CallerSim P L0 call)
    (hK : ∀ m' rv w', RV m' v rv → Rel m' L0 H' w' → Trans (if pi.quiet then H.length else lo) m H w m' H' w' → K (a.put o.dst rv) w') : wpOp P ops Q k K a w := by
  have hro : ∀ x ∈ o.op.operands, RV m (ev ρ x) (a.eval x) := fun x hx => ev_rel (prep_opnds hok.prep x hx) fun t ht => hr t (reads_operand (ht ▸ hx))
  unfold wpOp
  rw [ho]
  simp only
  rcases pval_cases hv with ⟨hw, rfl, rfl⟩ | ⟨hw, _, hp | ⟨f, args, hp, hc⟩⟩
  · rw [wanted_rel hok.guard hw hr]
    simp only [Bool.false_eq_true, if_false]
    exact hK m undef w (RV.undef m) hR (Trans.refl _ m _ w)
  · rw [wanted_rel hok.guard hw hr]
    simp only [if_true]
    left
    rw [hok.op] at hp
    have hs : StepSim P (execOp a.eval o) L0 (if pi.quiet then H.length else lo) m H w v H' := by
      split
      · rename_i hqq
        rw [pop_lo (lo' := H.length) (hq hqq)] at hp
        exact sim_pop hok.prep hp hro hR hlen hf
      · exact sim_pop hok.prep hp hro hR hlo hf
    obtain ⟨rv, w', m', hrun, h1, h2, h3⟩ := hs
    unfold Oper.wp
    rcases hrun with hrun | ⟨hrun, rfl⟩
    · rw [hrun]
      exact hK m' rv w' h1 h2 h3
    · rw [hrun]
      exact hK m' undef w' h1 h2 h3
  · rw [wanted_rel hok.guard hw hr]
    simp only [if_true]
    left
    rw [hok.op] at hp
    have hlo' : L0 ≤ (if pi.quiet then H.length else lo) := by split <;> assumption
    obtain ⟨rargs, hra, hrun'⟩ := sim_pcall hok.prep hp hro
    have hrun := hrun' (hcall f args _ H v H' hc m w rargs hR hlo' hlen hra hf).1
    unfold Oper.wp
    rw [hrun w]
    show Calls P f rargs.toArray w _
    refine (hcall f args _ H v H' hc m w rargs hR hlo' hlen hra hf).2.mono ?_
    rintro e w' ⟨m', rv, rfl, h1, h2, h3⟩
    exact hK m' rv w' h1 h2 h3
end
end Go.PM
/- A statement of open order: whatever order is drawn, the state behind it is the text's. First what the text's order goes through. -/
namespace Go.PM
theorem trace_exists {call : Caller} {lo : Nat} : ∀ {pis : List PI} {ρ ρ' : Env} {H H' : Heap}, psteps call lo pis ρ H = some (ρ', H') →
    ∃ st : Nat → Env × Heap, st 0 = (ρ, H) ∧ st pis.length = (ρ', H') ∧ ∀ i pi, pis[i]? = some pi → pstep call lo pi (st i).1 (st i).2 = some (st (i + 1))
  | [], ρ, ρ', H, H', h => by
    cases h
    exact ⟨fun _ => (ρ, H), rfl, rfl, fun i pi hi => by simp at hi⟩
  | x :: pis, ρ, ρ', H, H', h => by
    rw [psteps] at h
    split at h
    · rename_i ρ1 H1 h1
      obtain ⟨st, h2, h3, h4⟩ := trace_exists h
      refine ⟨fun i => match i with | 0 => (ρ, H) | i + 1 => st i, rfl, h3, fun i pi hi => ?_⟩
      cases i with
      | zero =>
        simp at hi
        subst hi
        show pstep call lo x ρ H = some (st 0)
        rw [h1, h2]
      | succ i => exact h4 i pi (by simpa using hi)
    · cases h
theorem live_congr {H1 H2 : Heap} {b : Nat} (h : H2[b]? = H1[b]?) : Live H2 b ↔ Live H1 b := by
  unfold Live
  rw [h]
theorem Rel.restrict {m : PMap} {L0 : Nat} {H1 H2 : Heap} {w : World} (h : Rel m L0 H2 w) (hs : ∀ b, b < H1.length → H2[b]? = H1[b]?) : Rel m L0 H1 w := by
  refine ⟨h.valid, fun b l cs e p hm hb => h.row b l cs e p hm ?_, fun b1 b2 l1 l2 hb h1 h2 hl1 hl2 => h.inj b1 b2 l1 l2 hb h1 h2 ((live_congr (hs b1 hl1.lt)).2 hl1) ((live_congr (hs b2 hl2.lt)).2 hl2), fun x hx => ⟨(h.glob x hx).1, fun b l hb hm hl => (h.glob x hx).2 b l hb hm ((live_congr (hs b hl.lt)).2 hl)⟩⟩
  rw [hs b (List.getElem?_eq_some_iff.1 hb).1]
  exact hb
theorem Rel.grow {m : PMap} {L0 : Nat} {H1 H2 : Heap} {w : World} (h : Rel m L0 H1 w) (hs : ∀ b, b < H1.length → H2[b]? = H1[b]?) (hd : ∀ b, H1.length ≤ b → b < H2.length → m b = none) : Rel m L0 H2 w := by
  have lt : ∀ b l, m b = some l → b < H2.length → b < H1.length := fun b l hm hb => by
    rcases Nat.lt_or_ge b H1.length with h | h
    · exact h
    · rw [hd b h hb] at hm; cases hm
  refine ⟨h.valid, fun b l cs e p hm hb => h.row b l cs e p hm ?_, fun b1 b2 l1 l2 hb h1 h2 hl1 hl2 => h.inj b1 b2 l1 l2 hb h1 h2 ((live_congr (hs b1 (lt b1 l1 h1 hl1.lt))).1 hl1) ((live_congr (hs b2 (lt b2 l2 h2 hl2.lt))).1 hl2), fun x hx => ⟨(h.glob x hx).1, fun b l hb hm hl => (h.glob x hx).2 b l hb hm ((live_congr (hs b (lt b l hm hl.lt))).1 hl)⟩⟩
  rw [← hs b (lt b l hm (List.getElem?_eq_some_iff.1 hb).1)]
  exact hb
structure Text (P : Program) (E : Cfg) (n : Nat) (ops : Array Oper) (pis : List PI) (ps : List POp) (M : List Nat) (call : Caller) (lo : Nat) (st : Nat → Env × Heap) : Prop where
  ok : RegOk P E n ops.toList true pis ps M
  ext : ExtCaller call
  step : ∀ i pi, pis[i]? = some pi → pstep call lo pi (st i).1 (st i).2 = some (st (i + 1))
section
variable {P : Program} {E : Cfg} {n : Nat} {ops : Array Oper} {pis : List PI} {ps : List POp} {M : List Nat} {call : Caller} {lo : Nat} {st : Nat → Env × Heap}
theorem Text.at (T : Text P E n ops pis ps M call lo st) {i : Nat} (hi : i < ops.size) : ∃ o p pi, ops[i]? = some o ∧ ps[i]? = some p ∧ pis[i]? = some pi ∧ PIok P E n ops.toList i o p pi ∧ PIdraw E ops.toList ps M i o p pi ∧
    ∃ v, pval call lo pi (st i).1 (st i).2 = some (v, (st (i + 1)).2) ∧ (st (i + 1)).1 = put (st i).1 o.dst v := by
  have ho : ops.toList[i]? = some ops[i] := by simp [hi]
  obtain ⟨p, pi, h1, h2, h3, h4, _⟩ := T.ok.each i _ ho
  obtain ⟨v, h5, h6⟩ := pstep_spec (T.step i pi h2)
  exact ⟨ops[i], p, pi, by simp [hi], h1, h2, h3, h4 rfl, v, h5, by rw [h6, h3.dst]⟩
theorem Text.len1 (T : Text P E n ops pis ps M call lo st) {i : Nat} (hi : i < ops.size) : (st i).2.length ≤ (st (i + 1)).2.length := by
  obtain ⟨o, p, pi, _, _, _, _, _, v, hv, _⟩ := T.at hi
  exact (ext_pval T.ext hv).len
theorem Text.len (T : Text P E n ops pis ps M call lo st) {i : Nat} : ∀ {j : Nat}, i ≤ j → j ≤ ops.size → (st i).2.length ≤ (st j).2.length := by
  intro j hij
  induction j with
  | zero => intro _; have : i = 0 := by omega
            subst this; exact Nat.le_refl _
  | succ j ih =>
    intro hj
    rcases Nat.lt_or_ge i (j + 1) with h | h
    · exact Nat.le_trans (ih (by omega) (by omega)) (T.len1 (by omega))
    · have : i = j + 1 := by omega
      subst this; exact Nat.le_refl _
theorem Text.same1 (T : Text P E n ops pis ps M call lo st) {i : Nat} {p : POp} (hi : i < ops.size) (hp : ps[i]? = some p) (hw : clsOf E p ≠ .write) : ∀ b, b < (st i).2.length → (st (i + 1)).2[b]? = (st i).2[b]? := by
  intro b hb
  obtain ⟨o, p', pi, _, hp', _, hok, hdr, v, hv, _⟩ := T.at hi
  rw [hp] at hp'
  cases hp'
  rcases pval_cases hv with ⟨_, _, h⟩ | ⟨_, _, h | ⟨f, args, h1, h2⟩⟩
  · rw [h]
  · rw [hok.op] at h
    by_cases hq : clsOf E p = .quiet
    · rw [pop_lo (lo' := (st i).2.length) hq] at h
      exact (ext_pop h).low b hb hb
    · -- nothing is made: the heap is the same
      have : (st (i + 1)).2 = (st i).2 := by
        cases p <;> first
          | (exact absurd rfl hw)
          | (exact absurd rfl hq)
          | (rw [pop_pure rfl] at h; exact (pure_out h).2)
          | skip
        case load agg size q =>
          simp only [pop] at h
          cases hl : pload agg size (ev (st i).1 q) (st i).2 with
          | none => rw [hl] at h; cases h
          | some u => rw [hl] at h; injection h with h; injection h with _ h; exact h.symm
        case b2s x =>
          simp only [pop] at h
          split at h
          · injection h with h; injection h with _ h; exact h.symm
          · split at h
            · rename_i cs _
              cases hb : pbytes cs with
              | none => rw [hb] at h; cases h
              | some bs => rw [hb] at h; injection h with h; injection h with _ h; exact h.symm
            · cases h
          · cases h
        case sub size x l hh mx =>
          simp only [pop] at h
          cases mx with
          | some mx => exact absurd rfl hq
          | none =>
            cases hs : psub size (ev (st i).1 x) (l.map (ev (st i).1)) (hh.map (ev (st i).1)) ((none : Option Operand).map (ev (st i).1)) (st i).2 with
            | none => rw [hs] at h; cases h
            | some q =>
              obtain ⟨u, H1⟩ := q
              rw [hs] at h
              injection h with h; injection h with _ h
              subst h
              unfold psub at hs
              simp only [Option.map_none, Option.isSome_none, Bool.false_eq_true, false_and, if_false] at hs
              repeat' (split at hs)
              all_goals first
                | (cases hs; done)
                | (injection hs with hs; injection hs with _ hs; exact hs.symm)
        case call f args => cases h
      rw [this]
  · rw [hok.op] at h1
    have hq : pi.quiet = true := by
      rw [hdr.quiet]
      rcases pop_call_key h1 with ⟨g, as, rfl⟩ | ⟨g, as, rfl⟩
      · simp only [clsOf] at hw ⊢
        split at hw
        · exact absurd rfl hw
        · rename_i h; rw [if_neg h]
      · exact absurd rfl hw
    rw [hq] at h2
    exact (T.ext _ _ _ _ _ _ h2).low b hb hb
end
end Go.PM
/- Which blocks an operation leaves alone, and what a look at a block needs. -/
namespace Go.PM
theorem write_off {H H' : Heap} {lo b o : Nat} {new : List Value} (h : H.write lo b o new = some H') {b' : Nat} (hb : b' ≠ b) : H'[b']? = H[b']? := by
  obtain ⟨cs, e, p, h1, h2, h3, h4, rfl⟩ := write_spec h
  exact List.getElem?_set_ne (Ne.symm hb)
theorem pappend_off {H H' : Heap} {lo size bytes add : Nat} {x v : Value} {new : List Value} (h : pappend lo size bytes x add new H = some (v, H')) {b' : Nat} (hb : blkOf x ≠ some b') (hlt : b' < H.length) : H'[b']? = H[b']? := by
  unfold pappend at h
  split at h
  case isFalse => cases h
  split at h
  · split at h
    · split at h
      · cases h; rfl
      · split at h
        · cases h; exact List.getElem?_append_left hlt
        · cases h
    · cases h
  · rename_i b o n c
    have hne : b' ≠ b := fun e => hb (by rw [e]; rfl)
    split at h
    · split at h
      · split at h
        · split at h
          · cases h; rfl
          · cases hw : Heap.write H lo b (o + n * size) new with
            | none => rw [hw] at h; cases h
            | some H1 => rw [hw] at h; cases h; exact write_off hw hne
        · split at h
          · split at h
            · split at h
              · cases h
                rw [List.getElem?_append_left (by simpa using hlt)]
                exact List.getElem?_set_ne (Ne.symm hne)
              · cases h
            · cases h; exact List.getElem?_append_left hlt
          · cases h
      · cases h
    · cases h
  · cases h
theorem pop_off {E : Cfg} {lo : Nat} {p : POp} {ρ : Env} {H H' : Heap} {v : Value} {x : Operand} (h : pop lo p ρ H = some (.val v H')) (hw : clsOf E p = .write) (ht : touch p = some x) {b' : Nat} (hb : blkOf (ev ρ x) ≠ some b') (hlt : b' < H.length) : H'[b']? = H[b']? := by
  cases p <;> first | (cases ht; done) | (cases hw; done) | skip
  case sub size y l hh mx => cases mx <;> cases hw
  case store size q y =>
    cases ht
    simp only [pop] at h
    split at h
    · rename_i b o he
      rw [he] at hb
      have hne : b' ≠ b := fun e => hb (by rw [e]; rfl)
      split at h
      · cases hw : H.write lo b o (pcells (ev ρ y)) with
        | none => rw [hw] at h; cases h
        | some H1 => rw [hw] at h; cases h; exact write_off hw hne
      · cases h
    · cases h
  case app size bytes y z =>
    cases ht
    simp only [pop] at h
    split at h
    · rename_i n _
      split at h
      · rename_i new _
        cases ha : pappend lo size bytes (ev ρ x) n new H with
        | none => rw [ha] at h; cases h
        | some q =>
          obtain ⟨u, H1⟩ := q
          rw [ha] at h; cases h; exact pappend_off ha hb hlt
      · cases h
    · cases h
  case appz z bytes y n =>
    cases ht
    simp only [pop] at h
    split at h
    · rename_i k _
      split at h
      · cases ha : pappend lo z.length bytes (ev ρ x) k.toNat (zcells k.toNat z) H with
        | none => rw [ha] at h; cases h
        | some q =>
          obtain ⟨u, H1⟩ := q
          rw [ha] at h; cases h; exact pappend_off ha hb hlt
      · cases h
    · cases h
  case copy size y z =>
    cases ht
    simp only [pop] at h
    split at h
    · cases h; rfl
    · rename_i b o d _ s he _
      rw [he] at hb
      have hne : b' ≠ b := fun e => hb (by rw [e]; rfl)
      split at h
      · rename_i new _
        cases hw : H.write lo b o new with
        | none => rw [hw] at h; cases h
        | some H1 => rw [hw] at h; cases h; exact write_off hw hne
      · cases h
    · cases h
  case clear z y =>
    cases ht
    simp only [pop] at h
    split at h
    · cases h; rfl
    · rename_i b o n _ he
      rw [he] at hb
      have hne : b' ≠ b := fun e => hb (by rw [e]; rfl)
      split at h
      · cases h; rfl
      · cases hw : H.write lo b o (zcells n z) with
        | none => rw [hw] at h; cases h
        | some H1 => rw [hw] at h; cases h; exact write_off hw hne
    · cases h
theorem read_lt {H : Heap} {b o n : Nat} {cs : List Value} (h : H.read b o n = some cs) : b < H.length := by
  unfold Heap.read at h
  split at h
  · rename_i hb; exact (List.getElem?_eq_some_iff.1 hb).1
  · cases h
theorem read_congr {H H2 : Heap} {b o n : Nat} (h : H2[b]? = H[b]?) : H2.read b o n = H.read b o n := by
  unfold Heap.read
  rw [h]
theorem pload_look {agg : Bool} {size : Nat} {x v : Value} {H H2 : Heap} (h : pload agg size x H = some v) (hb : ∀ b, blkOf x = some b → b < H.length → H2[b]? = H[b]?) : pload agg size x H2 = some v := by
  unfold pload at h ⊢
  split at h
  · rename_i b o
    have hlt : b < H.length := by
      split at h
      · cases hr : H.read b o size with
        | none => rw [hr] at h; cases h
        | some cs => exact read_lt hr
      · cases hr : H.read b o 1 with
        | none => rw [hr] at h; cases h
        | some cs => exact read_lt hr
    have e := hb b rfl hlt
    simp only [read_congr e]
    exact h
  · cases h
theorem pop_look {E : Cfg} {lo : Nat} {p : POp} {ρ : Env} {H H' H2 : Heap} {v : Value} (h : pop lo p ρ H = some (.val v H')) (hc : clsOf E p = .look) (hb : ∀ x, touch p = some x → ∀ b, blkOf (ev ρ x) = some b → b < H.length → H2[b]? = H[b]?) :
    H' = H ∧ pop lo p ρ H2 = some (.val v H2) := by
  cases p <;> first | (cases hc; done) | skip
  case call f args => simp only [clsOf] at hc; split at hc <;> cases hc
  case load agg size q =>
    simp only [pop] at h ⊢
    cases hl : pload agg size (ev ρ q) H with
    | none => rw [hl] at h; cases h
    | some u =>
      rw [hl] at h
      cases h
      refine ⟨rfl, ?_⟩
      rw [pload_look hl (hb q rfl)]
      rfl
  case b2s x =>
    simp only [pop] at h ⊢
    split at h
    · cases h; exact ⟨rfl, rfl⟩
    · rename_i b o n _ he
      split at h
      · rename_i cs hr
        cases hbs : pbytes cs with
        | none => rw [hbs] at h; cases h
        | some bs =>
          rw [hbs] at h
          cases h
          refine ⟨rfl, ?_⟩
          have e := hb x rfl b (by rw [he]; rfl) (read_lt hr)
          rw [read_congr e, hr]
          simp only [hbs]
          rfl
      · cases h
    · cases h
  case sub size x l hh mx =>
    cases mx with
    | some mx => cases hc
    | none =>
      simp only [pop] at h ⊢
      cases hs : psub size (ev ρ x) (l.map (ev ρ)) (hh.map (ev ρ)) ((none : Option Operand).map (ev ρ)) H with
      | none => rw [hs] at h; cases h
      | some q =>
        obtain ⟨u, H1⟩ := q
        rw [hs] at h
        cases h
        have hb' := hb x rfl
        generalize ev ρ x = xv at hs hb'
        have key : H1 = H ∧ psub size xv (l.map (ev ρ)) (hh.map (ev ρ)) ((none : Option Operand).map (ev ρ)) H2 = some (u, H2) := by
          unfold psub at hs ⊢
          simp only [Option.map_none, Option.isSome_none, Bool.false_eq_true, false_and, if_false] at hs ⊢
          split at hs
          · repeat' (split at hs)
            all_goals first | (cases hs; done) | skip
            cases hs
            simp_all
          · rename_i b o n c
            split at hs
            · rename_i cs e p hrow
              have e1 := hb' b rfl (List.getElem?_eq_some_iff.1 hrow).1
              rw [e1, hrow]
              simp only
              repeat' (split at hs)
              all_goals first | (cases hs; done) | skip
              cases hs
              simp_all
            · cases hs
          · cases hs
        rw [key.2]
        exact ⟨key.1, rfl⟩
section
variable {P : Program} {E : Cfg} {n : Nat} {ops : Array Oper} {pis : List PI} {ps : List POp} {M : List Nat} {call : Caller} {lo : Nat} {st : Nat → Env × Heap}
theorem Text.extAt (T : Text P E n ops pis ps M call lo st) {i : Nat} : ∀ {j : Nat}, i ≤ j → j ≤ ops.size → Ext lo (st i).2 (st j).2 := by
  intro j hij
  induction j with
  | zero => intro _; have : i = 0 := by omega
            subst this; exact Ext.refl _ _
  | succ j ih =>
    intro hj
    rcases Nat.lt_or_ge i (j + 1) with h | h
    · obtain ⟨o, p, pi, _, _, _, _, _, v, hv, _⟩ := T.at (i := j) (by omega)
      exact (ih (by omega) (by omega)).trans (ext_pval T.ext hv)
    · have : i = j + 1 := by omega
      subst this; exact Ext.refl _ _
theorem Text.sameB (T : Text P E n ops pis ps M call lo st) {i : Nat} : ∀ {j : Nat}, i ≤ j → j ≤ ops.size → ∀ b, b < (st i).2.length →
    (∀ k, i ≤ k → k < j → ∀ p pi, ps[k]? = some p → pis[k]? = some pi → clsOf E p = .write → wantedP pi.g (st k).1 = some true → ∃ x, touch p = some x ∧ blkOf (ev (st k).1 x) ≠ some b) →
    (st j).2[b]? = (st i).2[b]? := by
  intro j hij
  induction j with
  | zero => intro _ b _ _; have : i = 0 := by omega
            subst this; rfl
  | succ j ih =>
    intro hj b hb hk
    rcases Nat.lt_or_ge i (j + 1) with h | h
    · have hlt : b < (st j).2.length := Nat.lt_of_lt_of_le hb (T.len (by omega) (by omega))
      have h1 : (st (j + 1)).2[b]? = (st j).2[b]? := by
        obtain ⟨o, p, pi, _, hp, hpi, hok, _, v, hv, _⟩ := T.at (i := j) (by omega)
        by_cases hw : clsOf E p = .write
        · rcases pval_cases hv with ⟨_, _, h⟩ | ⟨hwt, _, h | ⟨f, args, h1, h2⟩⟩
          · rw [h]
          · rw [hok.op] at h
            obtain ⟨x, hx, hne⟩ := hk j (by omega) (by omega) p pi hp hpi hw hwt
            exact pop_off h hw hx hne hlt
          · rw [hok.op] at h1
            obtain ⟨x, hx, hne⟩ := hk j (by omega) (by omega) p pi hp hpi hw hwt
            rcases pop_call_key h1 with ⟨g, as, rfl⟩ | ⟨g, as, rfl⟩ <;> cases hx
        · exact T.same1 (by omega) hp hw b hlt
      rw [h1]
      exact ih (by omega) (by omega) b hb fun k hk1 hk2 => hk k hk1 (by omega)
    · have : i = j + 1 := by omega
      subst this; rfl
theorem Text.same (T : Text P E n ops pis ps M call lo st) {i j : Nat} (hij : i ≤ j) (hj : j ≤ ops.size) (hk : ∀ k, i ≤ k → k < j → ∀ p, ps[k]? = some p → clsOf E p ≠ .write) : ∀ b, b < (st i).2.length → (st j).2[b]? = (st i).2[b]? :=
  fun b hb => T.sameB hij hj b hb fun k h1 h2 p _ hp _ hw _ => absurd hw (hk k h1 h2 p hp)
theorem Text.envSame (T : Text P E n ops pis ps M call lo st) {i t : Nat} : ∀ {j : Nat}, i ≤ j → j ≤ ops.size → (∀ k o, i ≤ k → k < j → ops[k]? = some o → o.dst ≠ some t) → (st j).1 t = (st i).1 t := by
  intro j hij
  induction j with
  | zero => intro _ _; have : i = 0 := by omega
            subst this; rfl
  | succ j ih =>
    intro hj hk
    rcases Nat.lt_or_ge i (j + 1) with h | h
    · obtain ⟨o, p, pi, ho, hp, hpi, hok, _, v, hv, he⟩ := T.at (i := j) (by omega)
      rw [he]
      have hne := hk j o (by omega) (by omega) ho
      have h1 : put (st j).1 o.dst v t = (st j).1 t := by
        cases hd : o.dst with
        | none => rfl
        | some d =>
          rw [hd] at hne
          show (if t = d then v else _) = _
          rw [if_neg (fun e => hne (by rw [e]))]
      rw [h1]
      exact ih (by omega) (by omega) fun k o hk1 hk2 => hk k o hk1 (by omega)
    · have : i = j + 1 := by omega
      subst this; rfl
end
end Go.PM
/- A statement of open order: whatever order is drawn, the state behind it is the text's. -/
namespace Go.PM
theorem ahead_lt {M : List Nat} {i j : Nat} (h : i < j) : ahead M i j = (M.getD j 0).testBit i := by
  unfold ahead
  have e1 : Nat.max i j = j := Nat.max_eq_right (by omega)
  have e2 : Nat.min i j = i := Nat.min_eq_left (by omega)
  rw [e1, e2]
theorem ahead_gt {M : List Nat} {i j : Nat} (h : j < i) : ahead M i j = (M.getD i 0).testBit j := by
  unfold ahead
  have e1 : Nat.max i j = i := Nat.max_eq_left (by omega)
  have e2 : Nat.min i j = j := Nat.min_eq_right (by omega)
  rw [e1, e2]
theorem put_getD {a : Act} {d t : Nat} {v : Value} (hd : d < a.tmps.size) : (a.put (some d) v).tmps.getD t undef = if t = d then v else a.tmps.getD t undef := by
  show (a.tmps.setIfInBounds d v).getD t undef = _
  rcases Nat.lt_or_ge t a.tmps.size with h | h
  · by_cases e : t = d
    · subst e; simp [h]
    · simp [h, e, Ne.symm e]
  · have : t ≠ d := by omega
    simp [h, this]
theorem put_size (a : Act) (d : Option Nat) (v : Value) : (a.put d v).tmps.size = a.tmps.size := by
  cases d <;> simp [Act.put]
theorem put_defs (a : Act) (d : Option Nat) (v : Value) : (a.put d v).defers = a.defers := by
  cases d <;> rfl
section
variable {P : Program} {E : Cfg} {n : Nat} {ops : Array Oper} {pis : List PI} {ps : List POp} {M : List Nat} {call : Caller} {lo L0 : Nat} {st : Nat → Env × Heap}
structure AnyInv (E : Cfg) (n : Nat) (ops : Array Oper) (ps : List POp) (lo L0 : Nat) (st : Nat → Env × Heap) (m0 : PMap) (w0 : World) (ds : List Deferred) (S : Nat → Prop) (m : PMap) (c : Nat) (a : Act) (w : World) : Prop where
  tsize : a.tmps.size = n
  defs : a.defers = ds
  back : ∀ i o, ops.toList[i]? = some o → S i → ∀ e ∈ o.after.toList, Region.binds .any e = true → S e.on
  tm : ∀ t j, j ≤ ops.size → (∀ i o, ops.toList[i]? = some o → o.dst = some t → (S i ↔ i < j)) → RV m ((st j).1 t) (a.tmps.getD t undef)
  cle : c ≤ ops.size
  before : ∀ i p, i < c → ps[i]? = some p → clsOf E p = .write → S i
  atc : c < ops.size → ¬ S c ∧ ∃ p, ps[c]? = some p ∧ clsOf E p = .write
  rel : Rel m L0 (st c).2 w
  tr : Trans lo m0 (st 0).2 w0 m (st c).2 w
  dom : ∀ b l, m b = some l → m0 b ≠ none ∨ ∃ i, S i ∧ i < ops.size ∧ (st i).2.length ≤ b ∧ b < (st (i + 1)).2.length
theorem Text.anc (T : Text P E n ops pis ps M call lo st) {S : Nat → Prop} (hS : ∀ i o, ops.toList[i]? = some o → S i → ∀ e ∈ o.after.toList, Region.binds .any e = true → S e.on) {k : Nat} {o : Oper} (ho : ops.toList[k]? = some o)
    (hk : ∀ e ∈ o.after.toList, Region.binds .any e = true → S e.on) {i : Nat} (hi : (M.getD k 0).testBit i = true) : S i :=
  closed_anc (fun i o hio => by
      obtain ⟨p, pi, _, _, _, hd, _⟩ := T.ok.each i o hio
      exact (hd rfl).back) (fun i o hio => by
      obtain ⟨p, pi, _, _, _, hd, _⟩ := T.ok.each i o hio
      exact (hd rfl).mask) hS k o ho hk i hi
theorem Text.nowrite (T : Text P E n ops pis ps M call lo st) {i : Nat} {p : POp} (hi : i < ops.size) (hp : ps[i]? = some p) (h : clsOf E p = .pure ∨ clsOf E p = .look) : (st (i + 1)).2 = (st i).2 := by
  obtain ⟨o, p', pi, _, hp', _, hok, hdr, v, hv, _⟩ := T.at hi
  rw [hp] at hp'
  cases hp'
  rcases pval_cases hv with ⟨_, _, h'⟩ | ⟨_, _, h' | ⟨f, args, h1, h2⟩⟩
  · exact h'
  · rw [hok.op] at h'
    rcases h with h | h
    · have : looksPure p = true := by
        cases p <;> first | rfl | (cases h; done) | skip
        case sub s x l hh mx => cases mx <;> cases h
        case call f as => simp only [clsOf] at h; split at h <;> cases h
      rw [pop_pure this] at h'
      exact (pure_out h').2
    · exact (pop_look h' h (fun _ _ _ _ _ => rfl)).1
  · exfalso
    rw [hok.op] at h1
    rcases pop_call_key h1 with ⟨g, as, rfl⟩ | ⟨g, as, rfl⟩
    · simp only [clsOf] at h
      split at h <;> rcases h with h | h <;> cases h
    · rcases h with h | h <;> cases h
theorem touch_mem {op : Op} {p : POp} {x : Operand} (h : prepOp P op = some p) (ht : touch p = some x) : x ∈ op.operands := by
  unfold prepOp at h
  split at h
  case isFalse => cases h
  cases op with
  | load t q =>
    dsimp only at h
    cases hi : tinfo P t with
    | none => rw [hi] at h; cases h
    | some u => rw [hi] at h; cases h; cases ht; simp [Op.operands]
  | store t q v =>
    dsimp only at h
    cases hi : P.info? t with
    | none => rw [hi] at h; cases h
    | some u => rw [hi] at h; cases h; cases ht; simp [Op.operands]
  | slice t y l hh mx =>
    dsimp only at h
    split at h
    · split at h
      · cases h; cases ht
      · cases h
    · rename_i e _
      cases hi : tinfo P e with
      | none => rw [hi] at h; cases h
      | some u => rw [hi] at h; cases h; cases ht; simp [Op.operands]
    · cases h
  | convert s d y =>
    dsimp only at h
    repeat' (split at h)
    all_goals first
      | (cases h; done)
      | (cases h; cases ht; done)
      | (cases h; cases ht; simp [Op.operands])
  | call c =>
    obtain ⟨callee, args, ts⟩ := c
    cases callee with
    | builtin b =>
      simp only [prepBuiltin] at h
      repeat' (split at h)
      all_goals first
        | (cases h; done)
        | (cases h; cases ht; done)
        | skip
      all_goals
        cases h
        cases ht
        have hm : x ∈ args.toList := by simp_all
        simpa [Op.operands, Call.operands] using hm
    | value f =>
      cases f with
      | tmp g' => cases h; cases ht
      | func g' => cases h; cases ht
      | _ => cases h
    | invoke r s => cases h
  | _ =>
    exfalso
    dsimp only at h
    try unfold prepBin at h
    repeat' (split at h)
    all_goals first
      | contradiction
      | (cases h; done)
      | (cases h; cases ht; done)
      | exact map_none h (by intro y h; cases h; cases ht)
end
end Go.PM
/- One operation of a drawn run. -/
namespace Go.PM
theorem next_place (p : Nat → Prop) : ∀ (d c N : Nat), N - c = d → c ≤ N → ∃ c', c ≤ c' ∧ c' ≤ N ∧ (∀ i, c ≤ i → i < c' → ¬ p i) ∧ (c' < N → p c')
  | 0, c, N, hd, hc => ⟨c, Nat.le_refl _, hc, fun i h1 h2 => by omega, fun h => by omega⟩
  | d + 1, c, N, hd, hc => by
    by_cases hp : p c
    · exact ⟨c, Nat.le_refl _, hc, fun i h1 h2 => by omega, fun _ => hp⟩
    · obtain ⟨c', h1, h2, h3, h4⟩ := next_place p d (c + 1) N (by omega) (by omega)
      refine ⟨c', by omega, h2, fun i hi1 hi2 => ?_, h4⟩
      rcases Nat.lt_or_ge c i with h | h
      · exact h3 i h hi2
      · have : i = c := by omega
        subst this; exact hp
theorem rv_block {m : PMap} {v r : Value} {b : Nat} (h : RV m v r) (hb : blkOf v = some b) : ∃ l, m b = some l := by
  cases h <;> first | (cases hb; done) | (cases hb; exact ⟨_, by assumption⟩)
section
variable {P : Program} {E : Cfg} {n : Nat} {ops : Array Oper} {pis : List PI} {ps : List POp} {M : List Nat} {call : Caller} {lo L0 : Nat} {st : Nat → Env × Heap}
  {m0 : PMap} {w0 : World} {ds : List Deferred} {S : Nat → Prop} {m : PMap} {c : Nat} {a : Act} {w : World} {k : Nat} {o : Oper} {p : POp} {pi : PI}
structure At (P : Program) (E : Cfg) (n : Nat) (ops : Array Oper) (pis : List PI) (ps : List POp) (M : List Nat) (S : Nat → Prop) (k : Nat) (o : Oper) (p : POp) (pi : PI) : Prop where
  lt : k < ops.size
  eo : ops[k]? = some o
  ep : ps[k]? = some p
  epi : pis[k]? = some pi
  ok : PIok P E n ops.toList k o p pi
  dr : PIdraw E ops.toList ps M k o p pi
  notS : ¬ S k
  anc : ∀ i, (M.getD k 0).testBit i = true → S i
  desc : ∀ i, i < ops.size → S i → (M.getD i 0).testBit k = true → False
theorem At.ah (A : At P E n ops pis ps M S k o p pi) {i : Nat} (hi : i < ops.size) (h : i = k ∨ ahead M k i = true) : S i ↔ i < k := by
  rcases Nat.lt_trichotomy i k with h1 | h1 | h1
  · refine ⟨fun _ => h1, fun _ => ?_⟩
    rcases h with h | h
    · omega
    · rw [ahead_gt h1] at h; exact A.anc i h
  · subst h1
    exact ⟨fun h => absurd h A.notS, fun h => by omega⟩
  · refine ⟨fun hs => ?_, fun h => by omega⟩
    rcases h with h | h
    · omega
    · rw [ahead_lt h1] at h; exact absurd h (fun h => A.desc i hi hs h)
theorem lt_of_some {i : Nat} {oi : Oper} (h : ops.toList[i]? = some oi) : i < ops.size := by
  have := (List.getElem?_eq_some_iff.1 h).1
  simpa using this
theorem At.reads (A : At P E n ops pis ps M S k o p pi) (I : AnyInv E n ops ps lo L0 st m0 w0 ds S m c a w) : ∀ t ∈ readsOf ops.toList o, RV m ((st k).1 t) (a.tmps.getD t undef) := by
  intro t ht
  refine I.tm t k (Nat.le_of_lt A.lt) fun i oi hi hd => ?_
  exact A.ah (lt_of_some hi) (A.dr.temps t (List.mem_append_right _ ht) i oi hi hd)
theorem At.operand (A : At P E n ops pis ps M S k o p pi) (I : AnyInv E n ops ps lo L0 st m0 w0 ds S m c a w) {x : Operand} (hx : x ∈ o.op.operands) : RV m (ev (st k).1 x) (a.eval x) :=
  ev_rel (prep_opnds A.ok.prep x hx) fun t ht => A.reads I t (reads_operand (ht ▸ hx))
theorem At.pair (T : Text P E n ops pis ps M call lo st) {i j : Nat} {p q : POp} (hij : i < j) (hj : j < ops.size) (hp : ps[i]? = some p) (hq : ps[j]? = some q) : ∃ qi, pis[j]? = some qi ∧ Pair E ops.toList M i j p q qi.cf := by
  obtain ⟨o, q', qi, _, hq', hqi, _, hd, _⟩ := T.at hj
  rw [hq] at hq'
  cases hq'
  exact ⟨qi, hqi, hd.pairs i hij p hp⟩
theorem AnyInv.late (T : Text P E n ops pis ps M call lo st) (I : AnyInv E n ops ps lo L0 st m0 w0 ds S m c a w) {i : Nat} {q : POp} (hi : c < i) (hn : i < ops.size) (hS : S i) (hq : ps[i]? = some q) : clsOf E q = .pure ∨ clsOf E q = .look := by
  obtain ⟨hcS, pc, hpc, hcc⟩ := I.atc (by omega)
  obtain ⟨qi, _, hpair⟩ := At.pair T hi hn hpc hq
  unfold Pair at hpair
  rw [hcc] at hpair
  obtain ⟨oi, _, _, hoi, _⟩ := T.at hn
  have hoi' : ops.toList[i]? = some oi := by simpa using hoi
  have fin : ahead M c i = true → False := fun h => by
    rw [ahead_lt hi] at h
    exact hcS (T.anc I.back hoi' (I.back i oi hoi' hS) h)
  cases hcl : clsOf E q with
  | pure => exact .inl rfl
  | look => exact .inr rfl
  | quiet => rw [hcl] at hpair; exact absurd hpair fin
  | write => rw [hcl] at hpair; exact absurd hpair fin
theorem AnyInv.temps (T : Text P E n ops pis ps M call lo st) (I : AnyInv E n ops ps lo L0 st m0 w0 ds S m c a w) (A : At P E n ops pis ps M S k o p pi) {m' : PMap} {v rv : Value} (hm : ∀ b l, m b = some l → m' b = some l) (hv : RV m' v rv)
    (he : (st (k + 1)).1 = put (st k).1 o.dst v) : ∀ t j, j ≤ ops.size → (∀ i o, ops.toList[i]? = some o → o.dst = some t → ((i = k ∨ S i) ↔ i < j)) → RV m' ((st j).1 t) ((a.put o.dst rv).tmps.getD t undef) := by
  intro t j hj hw
  have hok : ops.toList[k]? = some o := by simpa using A.eo
  cases hd : o.dst with
  | none =>
    show RV m' _ (a.tmps.getD t undef)
    refine (I.tm t j hj fun i oi hi hdi => ?_).mono hm
    have hne : i ≠ k := fun e => by subst e; rw [hok] at hi; cases hi; rw [hd] at hdi; cases hdi
    rw [← hw i oi hi hdi]
    simp [hne]
  | some d =>
    rw [put_getD (by rw [I.tsize]; exact A.ok.bound d hd)]
    by_cases htd : t = d
    · subst htd
      rw [if_pos rfl]
      have hkj : k < j := (hw k o hok hd).1 (.inl rfl)
      have e1 : (st j).1 t = (st (k + 1)).1 t := by
        refine T.envSame hkj hj fun i oi hi1 hi2 hoi hdi => ?_
        have hoi' : ops.toList[i]? = some oi := by simpa using hoi
        have hS := (hw i oi hoi' hdi).2 hi2
        have hik : i ≠ k := by omega
        have := (A.ah (lt_of_some hoi') (A.dr.temps t (List.mem_append_left _ (by rw [hd]; simp)) i oi hoi' hdi)).1 (hS.resolve_left hik)
        omega
      rw [e1, he, hd]
      show RV m' (if t = t then v else _) rv
      rw [if_pos rfl]
      exact hv
    · rw [if_neg htd]
      refine (I.tm t j hj fun i oi hi hdi => ?_).mono hm
      have hne : i ≠ k := fun e => by subst e; rw [hok] at hi; cases hi; rw [hd] at hdi; cases hdi; exact htd rfl
      rw [← hw i oi hi hdi]
      simp [hne]
theorem AnyInv.back' (I : AnyInv E n ops ps lo L0 st m0 w0 ds S m c a w) (A : At P E n ops pis ps M S k o p pi) (hr : ∀ e ∈ o.after.toList, Region.binds .any e = true → S e.on) :
    ∀ i oi, ops.toList[i]? = some oi → (i = k ∨ S i) → ∀ e ∈ oi.after.toList, Region.binds .any e = true → (e.on = k ∨ S e.on) := by
  intro i oi hi hS e he hb
  rcases hS with rfl | hS
  · have : ops.toList[i]? = some o := by simpa using A.eo
    rw [this] at hi
    cases hi
    exact .inr (hr e he hb)
  · exact .inr (I.back i oi hi hS e he hb)
theorem unwritten_ev (T : Text P E n ops pis ps M call lo st) {i j : Nat} {x : Operand} (hij : i ≤ j) (hj : j ≤ ops.size) (h : unwritten ops.toList i j x = true) : ev (st j).1 x = ev (st i).1 x := by
  cases x with
  | tmp t =>
    refine T.envSame hij hj fun q oq h1 h2 hoq hd => ?_
    have hall := List.all_eq_true.1 h oq (by
      have hoq' : ops.toList[q]? = some oq := by simpa using hoq
      rw [List.mem_iff_getElem?]
      refine ⟨q - i, ?_⟩
      rw [List.getElem?_drop, List.getElem?_take, show i + (q - i) = q by omega, if_pos h2, hoq'])
    simp [hd] at hall
  | const v => rfl
  | global g => rfl
  | func f => rfl
theorem AnyInv.look (T : Text P E n ops pis ps M call lo st) (I : AnyInv E n ops ps lo L0 st m0 w0 ds S m c a w) (A : At P E n ops pis ps M S k o p pi) (hfresh : ∀ b, (st 0).2.length ≤ b → b < (st ops.size).2.length → m0 b = none)
    (hcl : clsOf E p = .pure ∨ clsOf E p = .look) {v : Value} (hv : pval call lo pi (st k).1 (st k).2 = some (v, (st (k + 1)).2)) : pval call lo pi (st k).1 (st c).2 = some (v, (st c).2) := by
  rcases pval_cases hv with ⟨hw, rfl, _⟩ | ⟨hw, hcf, hp | ⟨f, args, hp, _⟩⟩
  · unfold pval
    rw [hw]
  · unfold pval
    rw [hw]
    simp only [hcf, if_true]
    have key : pop lo pi.op (st k).1 (st c).2 = some (.val v (st c).2) := by
      rw [A.ok.op] at hp ⊢
      rcases hcl with hcl | hcl
      · have hlp : looksPure p = true := by
          cases p <;> first | rfl | (cases hcl; done) | skip
          case sub s x l hh mx => cases mx <;> cases hcl
          case call f as => simp only [clsOf] at hcl; split at hcl <;> cases hcl
        rw [pop_pure hlp] at hp ⊢
        rw [(pure_out hp).1]
        rfl
      · refine (pop_look hp hcl fun x hx b hb hlt => ?_).2
        rcases Nat.lt_or_ge c k with hck | hck
        · obtain ⟨hcS, pc, hpc, hcc⟩ := I.atc (Nat.lt_trans hck A.lt)
          have hlt' : b < (st c).2.length := by
            rcases Nat.lt_or_ge b (st c).2.length with h | h
            · exact h
            · exfalso
              obtain ⟨l, hl⟩ := rv_block (A.operand I (touch_mem A.ok.prep hx)) hb
              have h0 := T.len (i := 0) (j := c) (Nat.zero_le _) I.cle
              have h1 := T.len (i := k) (j := ops.size) (Nat.le_of_lt A.lt) (Nat.le_refl _)
              rcases I.dom b l hl with h2 | ⟨i, hiS, hin, hi1, hi2⟩
              · exact h2 (hfresh b (by omega) (by omega))
              · rcases Nat.lt_trichotomy i c with h3 | h3 | h3
                · have := T.len (i := i + 1) (j := c) h3 I.cle
                  omega
                · subst h3; exact hcS hiS
                · obtain ⟨oi, qi, pii, _, hqi, _⟩ := T.at hin
                  have := I.late T h3 hin hiS hqi
                  rw [T.nowrite hin hqi this] at hi2
                  omega
          refine (T.sameB (Nat.le_of_lt hck) (Nat.le_of_lt A.lt) b hlt' fun j hj1 hj2 q qi hq hqi hqw hwant => ?_).symm
          obtain ⟨pi', hpi', hpair⟩ := At.pair T hj2 A.lt hq A.ep
          rw [A.epi] at hpi'
          cases hpi'
          unfold Pair at hpair
          rw [hqw, hcl] at hpair
          rcases hpair with h | ⟨xa, xb, ha, hb', hun, hmem⟩
          · exfalso
            rw [ahead_lt hj2] at h
            have hjS := A.anc j h
            rcases Nat.lt_or_ge c j with h3 | h3
            · rcases I.late T h3 (Nat.lt_trans hj2 A.lt) hjS hq with h4 | h4 <;> (rw [hqw] at h4; cases h4)
            · have : j = c := by omega
              subst this; exact hcS hjS
          · rw [hx] at hb'
            cases hb'
            refine ⟨xa, ha, fun e => ?_⟩
            have hk := List.all_eq_true.1 hcf _ hmem
            unfold keepsOff at hk
            rw [unwritten_ev T (Nat.le_of_lt hj2) (Nat.le_of_lt A.lt) hun, e, hb] at hk
            simp at hk
        · refine T.sameB hck I.cle b hlt fun j hj1 hj2 q qi hq hqi hqw hwant => ?_
          have hjk : k < j := by
            rcases Nat.lt_or_ge k j with h | h
            · exact h
            · have : j = k := by omega
              subst this
              rw [A.ep] at hq
              cases hq
              rw [hqw] at hcl
              cases hcl
          have hjn : j < ops.size := Nat.lt_of_lt_of_le hj2 I.cle
          obtain ⟨oj, q', qi', hoj, hq', hqi', hokj, _, vj, hvj, _⟩ := T.at hjn
          rw [hq] at hq'
          cases hq'
          rw [hqi] at hqi'
          cases hqi'
          obtain ⟨qi', hqi', hpair⟩ := At.pair T hjk hjn A.ep hq
          rw [hqi] at hqi'
          cases hqi'
          unfold Pair at hpair
          rw [hqw, hcl] at hpair
          rcases hpair with h | ⟨xa, xb, ha, hb', hun, hmem⟩
          · exfalso
            rw [ahead_lt hjk] at h
            exact A.desc j hjn (I.before j q hj2 hq hqw) h
          · rw [hx] at ha
            cases ha
            refine ⟨xb, hb', fun e => ?_⟩
            have hcfj : qi.cf.all (keepsOff (st j).1) = true := by
              rcases pval_cases hvj with ⟨h, _⟩ | ⟨_, h, _⟩
              · rw [hwant] at h; cases h
              · exact h
            have hk := List.all_eq_true.1 hcfj _ hmem
            unfold keepsOff at hk
            rw [unwritten_ev T (Nat.le_of_lt hjk) (Nat.le_of_lt hjn) hun, e, hb] at hk
            simp at hk
    rw [key]
  · exfalso
    rw [A.ok.op] at hp
    rcases pop_call_key hp with ⟨g, as, rfl⟩ | ⟨g, as, rfl⟩
    · simp only [clsOf] at hcl
      split at hcl <;> rcases hcl with h | h <;> cases h
    · rcases hcl with h | h <;> cases h
end
end Go.PM
/- A statement of open order, run: every order comes to what the text's order comes to. -/
namespace Go.PM
section
variable {P : Program} {E : Cfg} {n : Nat} {ops : Array Oper} {pis : List PI} {ps : List POp} {M : List Nat} {call : Caller} {lo L0 : Nat} {st : Nat → Env × Heap}
  {m0 : PMap} {w0 : World} {ds : List Deferred}
theorem not_live_len {H : Heap} {b : Nat} (h : H.length ≤ b) : ¬ Live H b := fun hl => by have := hl.lt; omega
theorem any_step {S : Nat → Prop} {m : PMap} {c : Nat} {a : Act} {w : World} {k : Nat} {o : Oper} (T : Text P E n ops pis ps M call lo st) (hcall : CallerSim P L0 call) (hlo : L0 ≤ lo) (hl0 : L0 ≤ (st 0).2.length)
    (hfresh : ∀ b, (st 0).2.length ≤ b → b < (st ops.size).2.length → m0 b = none) (I : AnyInv E n ops ps lo L0 st m0 w0 ds S m c a w) (ho : ops[k]? = some o) (hkS : ¬ S k)
    (hr : ∀ e ∈ o.after.toList, Region.binds .any e = true → S e.on) {K : Act → World → Prop} {Q : Exit → Act → World → Prop}
    (hK : ∀ m' c' a' w', AnyInv E n ops ps lo L0 st m0 w0 ds (fun i => i = k ∨ S i) m' c' a' w' → K a' w') : wpOp P ops Q k K a w := by
  have hlt : k < ops.size := (Array.getElem?_eq_some_iff.1 ho).1
  obtain ⟨o', p, pi, ho', hp, hpi, hok, hdr, v, hv, he⟩ := T.at hlt
  rw [ho] at ho'
  cases ho'
  have ho2 : ops.toList[k]? = some o := by simpa using ho
  have A : At P E n ops pis ps M S k o p pi := ⟨hlt, ho, hp, hpi, hok, hdr, hkS, fun i hi => T.anc I.back ho2 hr hi, fun i hi hS hb => by
    have hio : ops.toList[i]? = some ops[i] := by simp [hi]
    exact hkS (T.anc I.back hio (I.back i _ hio hS) hb)⟩
  have hreads := A.reads I
  have hlen0 := T.len (i := 0) (j := c) (Nat.zero_le _) I.cle
  have hlenc := T.len (i := c) (j := ops.size) I.cle (Nat.le_refl _)
  have hlenk := T.len (i := 0) (j := k) (Nat.zero_le _) (Nat.le_of_lt hlt)
  have hlenk1 := T.len (i := k + 1) (j := ops.size) hlt (Nat.le_refl _)
  have hlenkk := T.len1 hlt
  have hfk : ∀ b, (st k).2.length ≤ b → b < (st (k + 1)).2.length → m b = none := by
    intro b h1 h2
    cases hm : m b with
    | none => rfl
    | some l =>
      exfalso
      rcases I.dom b l hm with h3 | ⟨i, hiS, hin, hi1, hi2⟩
      · exact h3 (hfresh b (by omega) (by omega))
      · rcases Nat.lt_trichotomy i k with h3 | h3 | h3
        · have := T.len (i := i + 1) (j := k) h3 (Nat.le_of_lt hlt)
          omega
        · subst h3; exact hkS hiS
        · have := T.len (i := k + 1) (j := i) h3 (Nat.le_of_lt hin)
          omega
  have lookcase : (clsOf E p = .pure ∨ clsOf E p = .look) → wpOp P ops Q k K a w := by
    intro hcl
    have hq : pi.quiet = false := by
      rw [hdr.quiet]
      rcases hcl with h | h <;> rw [h]
    have hw : clsOf E p ≠ .write := by rcases hcl with h | h <;> (rw [h]; exact fun h => by cases h)
    refine sim_op ho hok (fun h => by rw [hq] at h; cases h) (I.look T A hfresh hcl hv) hreads I.rel hlo (Nat.le_trans hl0 hlen0) (fun b h1 h2 => by omega) hcall fun m' rv w' hrv hR hT => ?_
    rw [hq] at hT
    simp only [Bool.false_eq_true, if_false] at hT
    have hmm : m' = m := by
      funext b
      cases hm : m b with
      | some l => exact hT.ext b l hm
      | none =>
        cases hm' : m' b with
        | none => rfl
        | some l => have := (hT.new b l hm' hm).1; omega
    subst hmm
    refine hK m' c _ w' ⟨by rw [put_size]; exact I.tsize, by rw [put_defs]; exact I.defs, I.back' A hr, I.temps T A (fun _ _ h => h) hrv he, I.cle, fun i q h1 h2 h3 => .inr (I.before i q h1 h2 h3), ?_, hR, ?_, ?_⟩
    · intro h
      obtain ⟨h1, q, h2, h3⟩ := I.atc h
      refine ⟨fun hS => hS.elim (fun e => ?_) h1, q, h2, h3⟩
      subst e
      rw [hp] at h2
      cases h2
      exact hw h3
    · exact Trans.trans (fun b h1 h2 => hfresh b h1 (by omega)) (T.extAt (Nat.zero_le _) I.cle) (Ext.refl _ _) I.tr hT
    · intro b l hb
      exact (I.dom b l hb).imp id fun ⟨i, h1, h2⟩ => ⟨i, .inr h1, h2⟩
  cases hcl : clsOf E p with
  | write =>
    have hkc : k = c := by
      rcases Nat.lt_trichotomy k c with h | h | h
      · exact absurd (I.before k p h hp hcl) hkS
      · exact h
      · exfalso
        obtain ⟨hcS, pc, hpc, hcc⟩ := I.atc (by omega)
        obtain ⟨qi, _, hpair⟩ := At.pair T h hlt hpc hp
        unfold Pair at hpair
        rw [hcc, hcl] at hpair
        simp only at hpair
        rw [ahead_lt h] at hpair
        exact hcS (A.anc c hpair)
    subst hkc
    refine sim_op ho hok (fun hq => by rw [hdr.quiet, hcl] at hq; cases hq) hv hreads I.rel hlo (Nat.le_trans hl0 hlen0) hfk hcall fun m' rv w' hrv hR hT => ?_
    have hq : pi.quiet = false := by rw [hdr.quiet, hcl]
    rw [hq] at hT
    simp only [Bool.false_eq_true, if_false] at hT
    obtain ⟨c', hc1, hc2, hc3, hc4⟩ := next_place (fun i => ∃ q, ps[i]? = some q ∧ clsOf E q = .write) _ (k + 1) ops.size rfl hlt
    have hsame : ∀ b, b < (st (k + 1)).2.length → (st c').2[b]? = (st (k + 1)).2[b]? := T.same hc1 hc2 fun i h1 h2 q hq hw => hc3 i h1 h2 ⟨q, hq, hw⟩
    have hlenc' := T.len hc1 hc2
    have hlenn := T.len (i := c') (j := ops.size) hc2 (Nat.le_refl _)
    have hdom : ∀ b l, m' b = some l → m0 b ≠ none ∨ ∃ i, (i = k ∨ S i) ∧ i < ops.size ∧ (st i).2.length ≤ b ∧ b < (st (i + 1)).2.length := by
      intro b l hb
      cases hm : m b with
      | some l' => exact (I.dom b l' hm).imp id fun ⟨i, h1, h2⟩ => ⟨i, .inr h1, h2⟩
      | none => exact .inr ⟨k, .inl rfl, hlt, (hT.new b l hb hm).1⟩
    have hafter : ∀ b, (st (k + 1)).2.length ≤ b → b < (st c').2.length → m' b = none := by
      intro b h1 h2
      cases hm : m' b with
      | none => rfl
      | some l =>
        exfalso
        rcases hdom b l hm with h3 | ⟨i, hiS, hin, hi1, hi2⟩
        · exact h3 (hfresh b (by omega) (by omega))
        · rcases Nat.lt_trichotomy i k with h3 | h3 | h3
          · have := T.len (i := i + 1) (j := k) h3 (Nat.le_of_lt hlt)
            omega
          · subst h3; omega
          · obtain ⟨oi, qi, pii, _, hqi, _⟩ := T.at hin
            have := I.late T h3 hin (hiS.resolve_left (by omega)) hqi
            rw [T.nowrite hin hqi this] at hi2
            omega
    have hTT : Trans lo m0 (st 0).2 w0 m' (st (k + 1)).2 w' := Trans.trans (fun b h1 h2 => hfresh b h1 (by omega)) (T.extAt (Nat.zero_le _) (Nat.le_of_lt hlt)) (T.extAt (Nat.le_succ _) hlt) I.tr hT
    refine hK m' c' _ w' ⟨by rw [put_size]; exact I.tsize, by rw [put_defs]; exact I.defs, I.back' A hr, I.temps T A hT.ext hrv he, hc2, ?_, ?_, hR.grow hsame hafter, ?_, hdom⟩
    · intro i q hi hq hw
      rcases Nat.lt_trichotomy i k with h | h | h
      · exact .inr (I.before i q h hq hw)
      · exact .inl h
      · exact absurd ⟨q, hq, hw⟩ (hc3 i h hi)
    · intro h
      obtain ⟨q, hq, hw⟩ := hc4 h
      refine ⟨fun hS => ?_, q, hq, hw⟩
      rcases hS with hS | hS
      · omega
      · rcases I.late T (by omega) h hS hq with h4 | h4 <;> (rw [hw] at h4; cases h4)
    · refine ⟨hTT.ext, fun b l hb hn => ?_, hTT.size, hTT.keep, hTT.same⟩
      obtain ⟨⟨h1, h2⟩, h3⟩ := hTT.new b l hb hn
      refine ⟨⟨h1, by omega⟩, ?_⟩
      rcases h3 with h3 | h3 | h3
      · exact .inl h3
      · exact .inr (.inl fun hl => h3 ((live_congr (hsame b h2)).1 hl))
      · exact .inr (.inr h3)
  | quiet =>
    have hkc : k < c := by
      rcases Nat.lt_or_ge k c with h | h
      · exact h
      · exfalso
        rcases Nat.lt_or_ge c k with h' | h'
        · obtain ⟨hcS, pc, hpc, hcc⟩ := I.atc (by omega)
          obtain ⟨qi, _, hpair⟩ := At.pair T h' hlt hpc hp
          unfold Pair at hpair
          rw [hcc, hcl] at hpair
          simp only at hpair
          rw [ahead_lt h'] at hpair
          exact hcS (A.anc c hpair)
        · have : k = c := by omega
          subst this
          obtain ⟨_, pc, hpc, hcc⟩ := I.atc hlt
          rw [hp] at hpc
          cases hpc
          rw [hcl] at hcc
          cases hcc
    have hnow : ∀ i, k < i → i < c → ∀ q, ps[i]? = some q → clsOf E q ≠ .write := by
      intro i h1 h2 q hq hw
      have hin : i < ops.size := Nat.lt_of_lt_of_le h2 I.cle
      obtain ⟨qi, _, hpair⟩ := At.pair T h1 hin hp hq
      unfold Pair at hpair
      rw [hcl, hw] at hpair
      simp only at hpair
      rw [ahead_lt h1] at hpair
      exact A.desc i hin (I.before i q h2 hq hw) hpair
    have hs1 : ∀ b, b < (st (k + 1)).2.length → (st c).2[b]? = (st (k + 1)).2[b]? := T.same hkc I.cle fun i h1 h2 q hq => hnow i h1 h2 q hq
    have hs0 : ∀ b, b < (st k).2.length → (st c).2[b]? = (st k).2[b]? := T.same (Nat.le_of_lt hkc) I.cle fun i h1 h2 q hq => by
      rcases Nat.lt_or_ge k i with h | h
      · exact hnow i h h2 q hq
      · have : i = k := by omega
        subst this
        rw [hp] at hq
        cases hq
        rw [hcl]
        exact fun h => by cases h
    have hlk1c := T.len (i := k + 1) (j := c) hkc I.cle
    refine sim_op ho hok (fun _ => hcl) hv hreads (I.rel.restrict hs0) hlo (Nat.le_trans hl0 hlenk) hfk hcall fun m' rv w' hrv hR hT => ?_
    have hq : pi.quiet = true := by rw [hdr.quiet, hcl]
    rw [hq] at hT
    simp only [if_true] at hT
    have hkeep : ∀ rb, rb < w.heap.size → w'.heap[rb]? = w.heap[rb]? := fun rb hrb => hT.keep rb hrb fun b l hb _ hl => absurd hl (not_live_len hb)
    have hnew : ∀ b l, m' b = some l → m b = none → ((st k).2.length ≤ b ∧ b < (st (k + 1)).2.length) ∧ (w.heap.size ≤ l.rb ∨ ¬ Live (st (k + 1)).2 b) := by
      intro b l h1 h2
      obtain ⟨h3, h4⟩ := hT.new b l h1 h2
      refine ⟨h3, ?_⟩
      rcases h4 with h4 | h4 | ⟨b0, l0, g1, _, g3, _⟩
      · exact .inl h4
      · exact .inr h4
      · exact absurd g3 (not_live_len g1)
    have hrbv : ∀ b l, m b = some l → l.rb < w.heap.size := by
      intro b l hb
      obtain ⟨arr, e, fz, h1, _⟩ := I.rel.valid b l hb
      exact (Array.getElem?_eq_some_iff.1 h1).1
    have hcell : ∀ rb j, rb < w.heap.size → w'.cell? ⟨rb, j, none⟩ = w.cell? ⟨rb, j, none⟩ := by
      intro rb j hrb
      unfold World.cell?
      simp only [hkeep rb hrb]
    have old : ∀ b l, m' b = some l → (st (k + 1)).2.length ≤ b → m b = some l := by
      intro b l hb h
      cases hm : m b with
      | some l' => have := hT.ext b l' hm; rw [hb] at this; exact this.symm
      | none => have := (hnew b l hb hm).1.2; omega
    refine hK m' c _ w' ⟨by rw [put_size]; exact I.tsize, by rw [put_defs]; exact I.defs, I.back' A hr, I.temps T A hT.ext hrv he, I.cle, fun i q h1 h2 h3 => .inr (I.before i q h1 h2 h3), ?_, ⟨hR.valid, ?_, ?_, ?_⟩, ?_, ?_⟩
    · intro h
      obtain ⟨h1, q, h2, h3⟩ := I.atc h
      exact ⟨fun hS => hS.elim (fun e => by omega) h1, q, h2, h3⟩
    · intro b l cs e pp hm hb
      rcases Nat.lt_or_ge b (st (k + 1)).2.length with h | h
      · exact hR.row b l cs e pp hm (by rw [← hs1 b h]; exact hb)
      · have hmo := old b l hm h
        obtain ⟨h1, h2, h3, h4⟩ := I.rel.row b l cs e pp hmo hb
        refine ⟨h1, h2, h3, fun i hi => ?_⟩
        obtain ⟨rv', g1, g2, g3⟩ := h4 i hi
        exact ⟨rv', by rw [hcell _ _ (hrbv b l hmo)]; exact g1, g2.mono hT.ext, g3⟩
    · intro b1 b2 l1 l2 hb1 h1 h2 hl1 hl2 hrb
      have fresh : ∀ b b' l l', m' b = some l → m b = none → m b' = some l' → Live (st c).2 b → l.rb = l'.rb → False := by
        intro b b' l l' g1 g2 g3 g4 g5
        obtain ⟨⟨_, g6⟩, g7⟩ := hnew b l g1 g2
        rcases g7 with g7 | g7
        · have := hrbv b' l' g3; omega
        · exact g7 ((live_congr (hs1 b g6)).1 g4)
      cases hm1 : m b1 with
      | some l1' =>
        cases hm2 : m b2 with
        | some l2' =>
          have e1 : l1' = l1 := by have := hT.ext b1 l1' hm1; rw [h1] at this; injection this with this; exact this.symm
          have e2 : l2' = l2 := by have := hT.ext b2 l2' hm2; rw [h2] at this; injection this with this; exact this.symm
          subst e1 e2
          exact I.rel.inj b1 b2 _ _ hb1 hm1 hm2 hl1 hl2 hrb
        | none =>
          have e1 : l1' = l1 := by have := hT.ext b1 l1' hm1; rw [h1] at this; injection this with this; exact this.symm
          subst e1
          exact (fresh b2 b1 _ _ h2 hm2 hm1 hl2 hrb.symm).elim
      | none =>
        cases hm2 : m b2 with
        | some l2' =>
          have e2 : l2' = l2 := by have := hT.ext b2 l2' hm2; rw [h2] at this; injection this with this; exact this.symm
          subst e2
          exact (fresh b1 b2 _ _ h1 hm1 hm2 hl1 hrb).elim
        | none =>
          have g1 := (hnew b1 l1 h1 hm1).1.2
          have g2 := (hnew b2 l2 h2 hm2).1.2
          exact hR.inj b1 b2 l1 l2 hb1 h1 h2 ((live_congr (hs1 b1 g1)).1 hl1) ((live_congr (hs1 b2 g2)).1 hl2) hrb
    · intro x hx
      refine ⟨(hR.glob x hx).1, fun b l hb hm hl => ?_⟩
      obtain ⟨⟨e0, fz0, q1⟩, q2⟩ := I.rel.glob x hx
      cases hm1 : m b with
      | some l' =>
        have e1 : l' = l := by have := hT.ext b l' hm1; rw [hm] at this; injection this with this; exact this.symm
        subst e1
        exact q2 b l' hb hm1 hl
      | none =>
        obtain ⟨⟨_, g6⟩, g7⟩ := hnew b l hm hm1
        rcases g7 with g7 | g7
        · have := (Array.getElem?_eq_some_iff.1 q1).1
          omega
        · exact (g7 ((live_congr (hs1 b g6)).1 hl)).elim
    · refine ⟨fun b l hb => hT.ext b l (I.tr.ext b l hb), fun b l hb hn => ?_, Nat.le_trans I.tr.size hT.size, fun rb hrb hk => ?_, hT.same.1.trans I.tr.same.1, hT.same.2.1.trans I.tr.same.2.1, hT.same.2.2.trans I.tr.same.2.2⟩
      · cases hm : m b with
        | some l' =>
          have e1 : l' = l := by have := hT.ext b l' hm; rw [hb] at this; injection this with this; exact this.symm
          subst e1
          exact I.tr.new b l' hm hn
        | none =>
          obtain ⟨⟨g1, g2⟩, g3⟩ := hnew b l hb hm
          refine ⟨⟨by omega, by omega⟩, ?_⟩
          rcases g3 with g3 | g3
          · exact .inl (Nat.le_trans I.tr.size g3)
          · exact .inr (.inl fun hl => g3 ((live_congr (hs1 b g2)).1 hl))
      · rw [hkeep rb (Nat.lt_of_lt_of_le hrb I.tr.size), I.tr.keep rb hrb hk]
    · intro b l hb
      cases hm : m b with
      | some l' => exact (I.dom b l' hm).imp id fun ⟨i, h1, h2⟩ => ⟨i, .inr h1, h2⟩
      | none => exact .inr ⟨k, .inl rfl, hlt, (hnew b l hb hm).1⟩
  | pure => exact lookcase (.inl hcl)
  | look => exact lookcase (.inr hcl)
end
end Go.PM
/- Statements and code of the pure machine against the model's. -/
namespace Go.PM
section
variable {P : Program} {E : Cfg} {n : Nat} {call : Caller} {lo L0 : Nat}
theorem Trans.fresh {m m' : PMap} {H H1 H2 : Heap} {w w' : World} (h : Trans lo m H w m' H1 w') (h1 : H.length ≤ H1.length) (hf : ∀ b, H.length ≤ b → b < H2.length → m b = none) : ∀ b, H1.length ≤ b → b < H2.length → m' b = none := by
  intro b hb1 hb2
  cases hm : m' b with
  | none => rfl
  | some l =>
    exfalso
    have hn := hf b (by omega) hb2
    have := (h.new b l hm hn).1
    omega
structure Here (n L0 : Nat) (m : PMap) (ρ : Env) (H : Heap) (a : Act) (w : World) : Prop where
  tsize : a.tmps.size = n
  defs : a.defers = []
  env : ∀ t, RV m (ρ t) (a.tmps.getD t undef)
  rel : Rel m L0 H w
theorem countP_lt {p q : Nat → Bool} : ∀ {l : List Nat} {i : Nat}, (∀ x ∈ l, q x = true → p x = true) → i ∈ l → p i = true → q i = false → l.countP q < l.countP p
  | x :: l, i, h, hi, hp, hq => by
    rw [List.countP_cons, List.countP_cons]
    have hle : l.countP q ≤ l.countP p := List.countP_mono_left fun x hx => h x (List.mem_cons_of_mem _ hx)
    rcases List.mem_cons.1 hi with rfl | hi
    · rw [if_neg (by simp [hq]), if_pos hp]; omega
    · have := countP_lt (fun x hx => h x (List.mem_cons_of_mem _ hx)) hi hp hq
      have : (if q x = true then 1 else 0) ≤ (if p x = true then 1 else 0) := by
        by_cases hqx : q x = true
        · rw [if_pos hqx, if_pos (h x List.mem_cons_self hqx)]; omega
        · rw [if_neg hqx]; omega
      omega
theorem set_true {listed : Array Bool} {k i : Nat} (hk : k < listed.size) : (listed.setIfInBounds k true).getD i false = true ↔ (i = k ∨ listed.getD i false = true) := by
  rcases Nat.lt_or_ge i listed.size with h | h
  · by_cases e : i = k
    · subst e; simp [h]
    · simp [h, e, Ne.symm e]
  · have : i ≠ k := by omega
    simp [h, this]
theorem any_all {ops : Array Oper} {pis : List PI} {ps : List POp} {M : List Nat} {st : Nat → Env × Heap} {m0 : PMap} {w0 : World} (T : Text P E n ops pis ps M call lo st) (hcall : CallerSim P L0 call) (hlo : L0 ≤ lo) (hl0 : L0 ≤ (st 0).2.length)
    (hfresh : ∀ b, (st 0).2.length ≤ b → b < (st ops.size).2.length → m0 b = none) {Q : Exit → Act → World → Prop}
    (hQ : ∀ m' a' w', Here n L0 m' (st ops.size).1 (st ops.size).2 a' w' → Trans lo m0 (st 0).2 w0 m' (st ops.size).2 w' → Q .normal a' w') :
    ∀ (fuel : Nat) (listed : Array Bool) (m : PMap) (c : Nat) (a : Act) (w : World), listed.size = ops.size → ((List.range ops.size).countP fun i => !listed.getD i false) ≤ fuel →
    AnyInv E n ops ps lo L0 st m0 w0 [] (fun i => listed.getD i false = true) m c a w → wpAny P .any ops Q fuel listed a w := by
  have fin : ∀ (listed : Array Bool) (m : PMap) (c : Nat) (a : Act) (w : World), listed.size = ops.size → (Region.ready .any ops listed = []) → AnyInv E n ops ps lo L0 st m0 w0 [] (fun i => listed.getD i false = true) m c a w → Q .normal a w := by
    intro listed m c a w hs hr I
    have all : ∀ i, i < ops.size → listed.getD i false = true := by
      intro i
      induction i using Nat.strongRecOn with
      | _ i ih =>
        intro hi
        cases hl : listed.getD i false with
        | true => rfl
        | false =>
          exfalso
          obtain ⟨o, p, pi, ho, _, _, _, hdr, _⟩ := T.at hi
          have : i ∈ Region.ready .any ops listed := by
            rw [mem_ready]
            refine ⟨?_, o, ho, fun e he hb => ?_⟩
            · have hil : i < listed.size := by omega
              simpa [hil] using hl
            · have := hdr.back e (by simpa using he) hb
              exact ih e.on this (by omega)
          rw [hr] at this
          cases this
    have hcN : c = ops.size := by
      rcases Nat.lt_or_ge c ops.size with h | h
      · exact absurd (all c h) (I.atc h).1
      · have := I.cle; omega
    subst hcN
    exact hQ m a w ⟨I.tsize, I.defs, fun t => I.tm t ops.size (Nat.le_refl _) fun i o hi _ => ⟨fun _ => lt_of_some hi, fun h => all i h⟩, I.rel⟩ I.tr
  intro fuel
  induction fuel with
  | zero =>
    intro listed m c a w hs hc I
    have hr : Region.ready .any ops listed = [] := by
      rw [List.eq_nil_iff_forall_not_mem]
      intro i hi
      have hi' := mem_ready.1 hi
      obtain ⟨h1, o, ho, _⟩ := hi'
      have hlt : i < ops.size := (Array.getElem?_eq_some_iff.1 ho).1
      have h0 : ((List.range ops.size).countP fun i => !listed.getD i false) = 0 := by omega
      rw [List.countP_eq_zero] at h0
      have := h0 i (List.mem_range.2 hlt)
      have hil : i < listed.size := by omega
      simp [hil] at this h1
      rw [h1] at this
      cases this
    exact ⟨hr, fin listed m c a w hs hr I⟩
  | succ fuel ih =>
    intro listed m c a w hs hc I
    refine ⟨fun hr => fin listed m c a w hs hr I, fun k hk => ?_⟩
    obtain ⟨h1, o, ho, hb⟩ := mem_ready.1 hk
    have hlt : k < ops.size := (Array.getElem?_eq_some_iff.1 ho).1
    have hkl : k < listed.size := by omega
    have hkf : listed.getD k false = false := by simpa [hkl] using h1
    refine any_step T hcall hlo hl0 hfresh I ho (by rw [hkf]; exact fun h => by cases h) (fun e he hbd => hb e (by simpa using he) hbd) fun m' c' a' w' I' => ih _ m' c' a' w' (by simpa using hs) ?_ ?_
    · have : ((List.range ops.size).countP fun i => !(listed.setIfInBounds k true).getD i false) < ((List.range ops.size).countP fun i => !listed.getD i false) := by
        refine countP_lt (i := k) (fun x _ hx => ?_) (List.mem_range.2 hlt) (by rw [hkf]; rfl) ?_
        · cases hlx : listed.getD x false with
          | false => rfl
          | true =>
            have := (set_true (i := x) hkl).2 (.inr hlx)
            rw [this] at hx
            cases hx
        · rw [(set_true hkl).2 (.inl rfl)]; rfl
      omega
    · have e : (fun i => (listed.setIfInBounds k true).getD i false = true) = fun i => i = k ∨ listed.getD i false = true := by
        funext i
        exact propext (set_true hkl)
      rw [e]
      exact I'
theorem Rel.drew {m : PMap} {H : Heap} {w w' : World} (h : Rel m L0 H w) (hw : w'.heap = w.heap) : Rel m L0 H w' := by
  have hc : ∀ x, w'.cell? x = w.cell? x := fun x => by unfold World.cell?; rw [hw]
  refine ⟨fun b l hb => by rw [hw]; exact h.valid b l hb, fun b l cs e p hm hb => ?_, h.inj, fun x hx => ⟨by rw [hw]; exact (h.glob x hx).1, (h.glob x hx).2⟩⟩
  obtain ⟨h1, h2, h3, h4⟩ := h.row b l cs e p hm hb
  refine ⟨h1, h2, h3, fun i hi => ?_⟩
  rw [hc]
  exact h4 i hi
theorem sim_region {id : Nat} {ops : Array Oper} {draw : Bool} {pis : List PI} (hmix : P.follows .mixedOrders = true) (hcall : CallerSim P L0 call) (hext : ExtCaller call) (hp : prepRegion P E n ops draw = some pis) {ρ ρ' : Env} {H H' : Heap}
    (hv : psteps call lo pis ρ H = some (ρ', H')) {m : PMap} {a : Act} {w : World} (h : Here n L0 m ρ H a w) (hlo : L0 ≤ lo) (hlen : L0 ≤ H.length) (hf : ∀ b, H.length ≤ b → b < H'.length → m b = none) {Q : Exit → Act → World → Prop}
    (hQ : ∀ m' a' w', Here n L0 m' ρ' H' a' w' → Trans lo m H w m' H' w' → Q .normal a' w') : (Code.region id ops draw).wp P Q a w := by
  obtain ⟨ps, M, hok⟩ := prepRegion_spec hp
  obtain ⟨st, hs0, hsn, hst⟩ := trace_exists hv
  have hN : pis.length = ops.size := by rw [hok.ilen]; simp
  rw [hN] at hsn
  cases draw with
  | true =>
    have T : Text P E n ops pis ps M call lo st := ⟨hok, hext, hst⟩
    apply wp_region_any hmix
    have e0 : (st 0).1 = ρ := by rw [hs0]
    have e1 : (st 0).2 = H := by rw [hs0]
    have e2 : (st ops.size).1 = ρ' := by rw [hsn]
    have e3 : (st ops.size).2 = H' := by rw [hsn]
    obtain ⟨c, hc1, hc2, hc3, hc4⟩ := next_place (fun i => ∃ q, ps[i]? = some q ∧ clsOf E q = .write) _ 0 ops.size rfl (Nat.zero_le _)
    have hsame := T.same hc1 hc2 fun i h1 h2 q hq hw => hc3 i h1 h2 ⟨q, hq, hw⟩
    have hlenc := T.len hc1 hc2
    have hlenn := T.len (i := c) (j := ops.size) hc2 (Nat.le_refl _)
    have hgr := h.rel.grow (by rw [← e1]; exact hsame) (fun b h1 h2 => hf b h1 (by rw [← e3]; omega))
    have hnone : ∀ i, (Array.replicate ops.size false).getD i false = true → False := by
      intro i hi
      rcases Nat.lt_or_ge i ops.size with h | h <;> simp [h] at hi
    refine any_all (m0 := m) (w0 := w) T hcall hlo (by rw [e1]; exact hlen) (by rw [e1, e3]; exact hf) (by rw [e1, e2, e3]; exact hQ) ops.size _ m c a _ (by simp) (Nat.le_trans List.countP_le_length (by simp)) ?_
    refine ⟨h.tsize, h.defs, fun i o _ hi => (hnone i hi).elim, fun t j hj hw => ?_, hc2, fun i q hi hq hw => absurd ⟨q, hq, hw⟩ (hc3 i (Nat.zero_le _) hi), fun hc => ⟨fun h => hnone _ h, hc4 hc⟩, hgr.drew rfl, ?_, fun b l hb => .inl (by rw [hb]; exact fun h => by cases h)⟩
    · have e : (st j).1 t = ρ t := by
        rw [← e0]
        refine T.envSame (Nat.zero_le _) hj fun i oi _ hi2 hoi hd => ?_
        have hoi' : ops.toList[i]? = some oi := by simpa using hoi
        exact (hnone i ((hw i oi hoi' hd).2 hi2)).elim
      rw [e]
      exact h.env t
    · rw [e1]
      refine ⟨fun _ _ h => h, fun b l hb hn => (by rw [hb] at hn; cases hn), Nat.le_refl _, fun _ _ _ => rfl, rfl, rfl, rfl⟩
  | false =>
    apply wp_region
    have key : ∀ d i, ops.size - i = d → i ≤ ops.size → ∀ m1 a1 w1, Here n L0 m1 (st i).1 (st i).2 a1 w1 → L0 ≤ (st i).2.length → (∀ b, (st i).2.length ≤ b → b < H'.length → m1 b = none) →
        (∀ m' a' w', Here n L0 m' ρ' H' a' w' → Trans lo m1 (st i).2 w1 m' H' w' → Q .normal a' w') → wpOps P ops Q ((List.range ops.size).drop i) a1 w1 := by
      intro d
      induction d with
      | zero =>
        intro i hd hi m1 a1 w1 h1 _ _ hQ1
        have : i = ops.size := by omega
        subst this
        rw [List.drop_eq_nil_of_le (by simp)]
        rw [hsn] at h1 hQ1
        exact hQ1 m1 a1 w1 h1 (Trans.refl _ _ _ _)
      | succ d ih =>
        intro i hd hi m1 a1 w1 h1 hl1 hf1 hQ1
        have hlt : i < ops.size := by omega
        rw [List.drop_eq_getElem_cons (by simpa using hlt), wpOps_cons]
        have ho : ops.toList[i]? = some ops[i] := by simp [hlt]
        obtain ⟨p, pi, hp1, hp2, hok1, _, hdr⟩ := hok.each i _ ho
        have hstep := hst i pi hp2
        obtain ⟨v, hv1, hv2⟩ := pstep_spec hstep
        have hq : pi.quiet = false := (hdr rfl).1
        have hE1 := ext_pstep hext hstep
        have hE2 : Ext lo (st (i + 1)).2 H' := by
          have : ∀ d j, ops.size - j = d → j ≤ ops.size → Ext lo (st j).2 H' := by
            intro d
            induction d with
            | zero => intro j hd hj; have : j = ops.size := by omega
                      subst this; rw [hsn]; exact Ext.refl _ _
            | succ d ih =>
              intro j hd hj
              have hjl : j < pis.length := by omega
              exact (ext_pstep hext (hst j pis[j] (List.getElem?_eq_getElem hjl))).trans (ih (j + 1) (by omega) (by omega))
          exact this _ (i + 1) rfl hlt
        have hge : (List.range ops.size)[i]'(by simpa using hlt) = i := by simp
        rw [hge]
        refine sim_op (by simp [hlt]) hok1 (fun h => by rw [hq] at h; cases h) hv1 (fun t _ => h1.env t) h1.rel hlo hl1 (fun b hb1 hb2 => hf1 b hb1 (Nat.lt_of_lt_of_le hb2 hE2.len)) hcall fun m' rv w' hrv hR hT => ?_
        rw [hq] at hT
        simp only [Bool.false_eq_true, if_false] at hT
        refine ih (i + 1) (by omega) hlt m' _ w' ⟨by rw [put_size]; exact h1.tsize, by rw [put_defs]; exact h1.defs, fun t => ?_, hR⟩ (Nat.le_trans hl1 hE1.len) (hT.fresh hE1.len hf1) fun m2 a2 w2 h2 hT2 => hQ1 m2 a2 w2 h2 (Trans.trans hf1 hE1 hE2 hT hT2)
        rw [hv2, hok1.dst]
        cases hd : ops[i].dst with
        | none => exact (h1.env t).mono hT.ext
        | some d =>
          rw [put_getD (by rw [h1.tsize]; exact hok1.bound d hd)]
          show RV m' (if t = d then v else (st i).1 t) _
          by_cases e : t = d
          · rw [if_pos e, if_pos e]; exact hrv
          · rw [if_neg e, if_neg e]; exact (h1.env t).mono hT.ext
    have := key ops.size 0 (by omega) (Nat.zero_le _) m a w (by rw [hs0]; exact h) (by rw [hs0]; exact hlen) (by rw [hs0]; exact hf) (by rw [hs0]; exact hQ)
    simpa using this
end
end Go.PM
