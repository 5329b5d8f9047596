/- The pure machine's operations on the heap, one by one; then all of them. -/
import Derived.Test.YtkoiolkkceknhaaPmSimE
namespace Go.PM

section
variable {P : Program} {m : PMap} {L0 : Nat} {H : Heap} {w : World}

theorem RL.const {zs : List Value} (h : zs.all constOk = true) : RL m zs zs :=
  ⟨rfl, fun j hj => by
    have := RV.const (m := m) (List.all_eq_true.1 h _ (List.getElem_mem hj))
    simpa [List.getD_eq_getElem?_getD, List.getElem?_eq_getElem hj] using this⟩

theorem zcells_length (n : Nat) (zs : List Value) : (zcells n zs).length = n * zs.length := by simp [zcells]
theorem zcells_const (n : Nat) {zs : List Value} (h : zs.all constOk = true) (h0 : 1 ≤ zs.length) : RL m (zcells n zs) (zcells n zs) := by
  refine ⟨rfl, fun i hi => ?_⟩
  rw [zcells_length] at hi
  have hlt : i % zs.length < zs.length := Nat.mod_lt _ h0
  have e : (zcells n zs).getD i undef = zs.getD (i % zs.length) undef := by simp [zcells, List.getD_eq_getElem?_getD, hi]
  rw [e]
  exact (RL.const h).2 _ hlt
theorem zcells_scal (n : Nat) {zs : List Value} (h : zs.all scal = true) (h0 : 1 ≤ zs.length) : (zcells n zs).all scal = true := by
  rw [List.all_eq_true]
  intro x hx
  obtain ⟨i, _, rfl⟩ := List.mem_map.1 hx
  have hlt : i % zs.length < zs.length := Nat.mod_lt _ h0
  have := List.all_eq_true.1 h _ (List.getElem_mem hlt)
  simpa [List.getD_eq_getElem?_getD, List.getElem?_eq_getElem hlt] using this
theorem made_zcells (z : Array Value) (n : Nat) (h0 : 1 ≤ z.size) : (madeCells z (n * z.size)).toList = zcells n z.toList := by
  apply List.ext_getElem
  · simp [madeCells, zcells]
  · intro i h1 h2
    have hlt : i % z.size < z.size := Nat.mod_lt _ h0
    simp [madeCells, zcells, hlt]
theorem zeroCells_eq (z : Array Value) (n : Nat) (h0 : 1 ≤ z.size) : (Builtin.zeroCells z n).toList = zcells n z.toList := by
  apply List.ext_getElem
  · simp [Builtin.zeroCells, zcells]
  · intro i h1 h2
    have hlt : i % z.size < z.size := Nat.mod_lt _ h0
    simp [Builtin.zeroCells, zcells, hlt]

theorem step_new {t : TypeId} {agg : Bool} {size nb lo : Nat} {z : List Value} (ht : tinfo P t = some (agg, size, z, nb)) (hz1 : z.all scal = true) (hz2 : z.all constOk = true) (hR : Rel m L0 H w) (hf : m H.length = none) :
    StepSim P (do pure (.value (← Instr.alloc t true (.tuple #[])))) L0 lo m H w (.pointer (some ⟨H.length, 0, none⟩)) (H ++ [.row z z.length false]) := by
  obtain ⟨i, d, zz, hi, hd, hzz, rfl, rfl, rfl, rfl⟩ := tinfo_spec ht
  have hrun : (Instr.alloc t true (.tuple #[])).run P w = .ok (.pointer (some ⟨w.heap.size, 0, none⟩)) (w.alloc (.cells zz.cells t)) := by
    simp [Instr.alloc, zeroValue, typeInfo, hi, hzz, newVar, newRow]
  have hA := alloc_rel hR hf (w' := w.alloc (.cells zz.cells t)) (arr := zz.cells) (e := t) (fz := (0, 0)) rfl ⟨rfl, rfl, rfl⟩ (cs := pcells zz) (esz := (pcells zz).length) (opn := false)
    (by rw [pcells_size]; exact Nat.le_refl _) (fun i hi => by
      have := (RL.const (m := m) hz2).2 i hi
      rwa [← getD_toList, pcells_toList]) hz1 (fun j _ h => by simp at h)
  exact StepSim.value hrun (.ptr _ 0 _ (bindAt_same m _ _)) hA.1 (hA.2 lo)

theorem step_box {t : TypeId} {v r : Value} {lo : Nat} (hv : RV m v r) (hs : (pcells v).all scal = true) (hR : Rel m L0 H w) (hf : m H.length = none) :
    StepSim P (do pure (.value (← Instr.box t r))) L0 lo m H w (.pointer (some ⟨H.length, 0, none⟩)) (H ++ [.row (pcells v) (pcells v).length false]) := by
  have hrun : (Instr.box t r).run P w = .ok (.pointer (some ⟨w.heap.size, 0, none⟩)) (w.alloc (.cells r.cells t)) := by
    simp [Instr.box, newVar, newRow]
  have hA := alloc_rel hR hf (w' := w.alloc (.cells r.cells t)) (arr := r.cells) (e := t) (fz := (0, 0)) rfl ⟨rfl, rfl, rfl⟩ (cs := pcells v) (esz := (pcells v).length) (opn := false)
    (by rw [pcells_size, hv.pcells.1]; exact Nat.le_refl _) (fun i hi => by
      have := hv.pcells.2 i hi
      rwa [← getD_toList, pcells_toList]) hs (fun j _ h => by simp at h)
  exact StepSim.value hrun (.ptr _ 0 _ (bindAt_same m _ _)) hA.1 (hA.2 lo)

theorem step_make {t : TypeId} {agg : Bool} {size nb lo : Nat} {z : List Value} {kl kc : IntKind} {l c : Int} (ht : elemInfo P t = some (agg, size, z, nb)) (hz1 : z.all scal = true) (hz2 : z.all constOk = true) (hzs : size = z.length) (hz0 : 1 ≤ size)
    (hl : 0 ≤ l) (hlc : l ≤ c) (hb : c * nb ≤ 281474976710656) (hc : c ≤ 9223372036854775807) (hR : Rel m L0 H w) (hf : m H.length = none) :
    StepSim P (do pure (.value (← Instr.makeSlice t (.int kl l) (.int kc c)))) L0 lo m H w (.slice (some ⟨H.length, 0, none⟩) l.toNat c.toNat) (H ++ [.row (zcells c.toNat z) z.length false]) := by
  obtain ⟨e, hu, hte⟩ := elemInfo_spec ht
  obtain ⟨i, d, zz, hi, hd, hzz, rfl, rfl, rfl, rfl⟩ := tinfo_spec hte
  have hrun := run_make (P := P) w t e i zz hu hi hzz kl kc l c hl hlc (by rw [Int.mul_comm]; exact hb) hc
  have hsz : i.size = zz.cells.size := by rw [hzs, pcells_size]
  rw [hsz] at hrun hz0
  have hcells : (madeCells zz.cells (c.toNat * zz.cells.size)).toList = zcells c.toNat (pcells zz) := by rw [made_zcells _ _ hz0, pcells_toList]
  have hsz2 : (madeCells zz.cells (c.toNat * zz.cells.size)).size = c.toNat * (pcells zz).length := by rw [size_madeCells, pcells_size]
  have hz0' : 1 ≤ (pcells zz).length := by rw [← pcells_size]; exact hz0
  have hA := alloc_rel hR hf (w' := w.alloc (.cells (madeCells zz.cells (c.toNat * zz.cells.size)) e)) (arr := madeCells zz.cells (c.toNat * zz.cells.size)) (e := e) (fz := (0, 0)) rfl ⟨rfl, rfl, rfl⟩
    (cs := zcells c.toNat (pcells zz)) (esz := (pcells zz).length) (opn := false) (by rw [hsz2, zcells_length]; exact Nat.le_refl _) (fun j hj => by
      have := (zcells_const (m := m) c.toNat hz2 hz0').2 j hj
      rwa [← getD_toList, hcells]) (zcells_scal _ hz1 hz0') (fun j _ h => by simp at h)
  refine StepSim.value hrun ?_ hA.1 (hA.2 lo)
  exact .slice _ 0 _ _ _ _ _ (bindAt_same m _ _) (by omega) (Nat.le_refl _) (fun _ => rfl) (.inr ⟨rfl, by simp only [hsz2]; omega⟩)

theorem step_lit {t : TypeId} {agg : Bool} {size nb lo n : Nat} {z cs : List Value} {parts : List (Nat × Operand)} {ρ : Env} {a : Act} (ht : elemInfo P t = some (agg, size, z, nb)) (hz1 : z.all scal = true) (hz2 : z.all constOk = true) (hzs : size = z.length) (hz0 : 1 ≤ size) (hn : n * size ≤ 16777216)
    (hfill : pfill ((List.range n).map fun i => (i * z.length, z.length)) (zcells n z) (parts.map fun (i, x) => (i, ev ρ x)) = some cs) (hsc : cs.all scal = true) (hr : ∀ p ∈ parts, RV m (ev ρ p.2) (a.eval p.2))
    (hR : Rel m L0 H w) (hf : m H.length = none) :
    StepSim P (do pure (.value (← Instr.buildSlice t n (parts.toArray.map fun (i, x) => (i, a.eval x))))) L0 lo m H w (.slice (some ⟨H.length, 0, none⟩) n n) (H ++ [.row cs z.length false]) := by
  obtain ⟨e, hu, hte⟩ := elemInfo_spec ht
  obtain ⟨i, d, zz, hi, hd, hzz, rfl, rfl, rfl, rfl⟩ := tinfo_spec hte
  have hsz : i.size = zz.cells.size := by rw [hzs, pcells_size]
  have hz0' : 1 ≤ (pcells zz).length := by rw [← pcells_size, ← hsz]; exact hz0
  have hpl : ∀ j q, ((List.range n).map fun i => (i * (pcells zz).length, (pcells zz).length))[j]? = some q → (fun i' => some (i' * i.size, i.size) : Nat → Option (Nat × Nat)) j = some q := by
    intro j q hj
    simp only [List.getElem?_map, Option.map_eq_some_iff] at hj
    obtain ⟨k, hk, rfl⟩ := hj
    have hk' := (List.getElem?_eq_some_iff.1 hk)
    obtain ⟨hk1, hk2⟩ := hk'
    simp at hk2
    subst hk2
    rw [← hzs]
  have hz : RL m (zcells n (pcells zz)) ((Array.range (n * i.size)).map (zz.cells[· % zz.cells.size]!)).toList := by
    have := zcells_const (m := m) n hz2 hz0'
    rw [hsz]
    have e1 := made_zcells zz.cells n (by rw [← hsz]; exact hz0)
    rw [pcells_toList] at e1
    show RL m _ (madeCells zz.cells (n * zz.cells.size)).toList
    rw [e1]
    exact this
  obtain ⟨rout, h1, h2⟩ := fill_rel (m := m) _ _ hpl (parts.map fun (i, x) => (i, ev ρ x)) (parts.map fun (i, x) => (i, a.eval x)) _ _ cs
    (by simp [Function.comp_def]) (by simpa [Function.comp_def] using RL.map (l := parts) (f := fun p => ev ρ p.2) (g := fun p => a.eval p.2) hr) hz hfill
  have hlen : cs.length = n * (pcells zz).length := by rw [pfill_length _ _ _ _ hfill, zcells_length]
  have emap : (Array.map (fun x : Nat × Operand => (x.1, a.eval x.2)) parts.toArray).toList = parts.map fun (i, x) => (i, a.eval x) := by simp
  have hbig : ¬ (2 ^ 24 < n * i.size) := by omega
  have hrun : (Instr.buildSlice t n (parts.toArray.map fun (i, x) => (i, a.eval x))).run P w = .ok (.slice (some ⟨w.heap.size, 0, none⟩) n n) (w.alloc (.cells rout e)) := by
    have h1' : Instr.fill (fun i' => some (i' * i.size, i.size)) ((Array.range (n * i.size)).map (zz.cells[· % zz.cells.size]!)) (Array.map (fun x : Nat × Operand => (x.1, a.eval x.2)) parts.toArray).toList = some rout := by rw [emap]; exact h1
    by_cases hn0 : n * i.size = 0
    · rw [hn0] at h1'
      simp only [show ∀ f : Nat → Value, (Array.range 0).map f = #[] from fun f => by simp] at h1'
      unfold Instr.buildSlice
      simp only [Sem.run_bind, run_underlying hu, Result.andThen_ok, run_sizeOf e i hi, hn0, if_true, Sem.run_pure, show ¬ (0 > 2 ^ 24) by omega, if_false]
      rw [show ∀ f : Nat → Value, (Array.range 0).map f = #[] from fun f => by simp]
      simp only [h1']
      simp [newRow]
    · unfold Instr.buildSlice
      simp only [Sem.run_bind, run_underlying hu, Result.andThen_ok, run_sizeOf e i hi, hn0, if_false, Sem.run_pure, gt_iff_lt, hbig, zeroValue, typeInfo, run_program, hi, hzz]
      simp only [h1']
      simp [newRow]
  have hrs : rout.size = n * (pcells zz).length := by rw [← hlen]; simpa using h2.1.symm
  have hA := alloc_rel hR hf (w' := w.alloc (.cells rout e)) (arr := rout) (e := e) (fz := (0, 0)) rfl ⟨rfl, rfl, rfl⟩ (cs := cs) (esz := (pcells zz).length) (opn := false)
    (by rw [hlen, hrs]; exact Nat.le_refl _) (fun j hj => by rw [← getD_toList]; exact h2.2 j hj) hsc (fun j _ h => by simp at h)
  refine StepSim.value hrun ?_ hA.1 (hA.2 lo)
  exact .slice _ 0 _ _ _ _ _ (bindAt_same m _ _) (Nat.le_refl _) (Nat.le_refl _) (fun _ => rfl) (.inr ⟨rfl, by simp only [hrs]; omega⟩)

/-- Bytes out of cells. -/
theorem pbytes_rel (g : Value → ByteArray → Sem (ForInStep ByteArray)) (hg : ∀ n s, g (.int .u8 n) s = pure (ForInStep.yield (s.push (UInt8.ofNat n.toNat)))) : ∀ (cs rs : List Value) (bs : List UInt8) (acc : ByteArray), RL m cs rs → pbytes cs = some bs → ∀ w,
    (forIn rs acc g).run P w = .ok ⟨(acc.data.toList ++ bs).toArray⟩ w := by
  intro cs
  induction cs with
  | nil =>
    intro rs bs acc hr hb w
    have e0 : rs = [] := List.eq_nil_of_length_eq_zero hr.1.symm
    subst e0
    cases hb
    simp
  | cons c cs ih =>
    intro rs bs acc hr hb w
    cases rs with
    | nil => exact absurd hr.1 (by simp)
    | cons r rs =>
      obtain ⟨hc, hcs⟩ := hr.uncons
      unfold pbytes at hb
      split at hb
      · rename_i heq; cases heq
      · rename_i n rest heq
        cases heq
        cases hc
        cases h2 : pbytes cs with
        | none => rw [h2] at hb; cases hb
        | some bs' =>
          rw [h2] at hb
          cases hb
          simp only [List.forIn_cons, hg, Sem.run_bind, Sem.run_pure, Result.andThen_ok]
          rw [ih rs bs' _ hcs h2 w]
          simp [ByteArray.push]
      · cases hb

theorem step_b2s {s d e : TypeId} {rp : Value} {lo n b off c : Nat} {cs : List Value} {bs : List UInt8} (hs : P.underlying s = some (.slice e)) (hd : P.underlying d = some .string) (he : P.underlying e = some (.int .u8))
    (hrd : H.read b off n = some cs) (hb : pbytes cs = some bs) (hR : Rel m L0 H w) (hp : RV m (.slice (some ⟨b, off, none⟩) n c) rp) :
    StepSim P (do pure (.value (← convert s d rp))) L0 lo m H w (.string ⟨bs.toArray⟩) H := by
  cases hp with
  | slice _ _ _ _ l ra rc hm hn hc hx ha =>
    obtain ⟨rs, h1, h2, _, h3⟩ := read_rel hR hm hrd
    have hload : (loadCells ra n).run P w = .ok rs.toArray w := by
      rcases ha with ha | ⟨rfl, ha⟩
      · have h0 : n = 0 := by omega
        subst h0
        have e0 : rs = [] := List.eq_nil_of_length_eq_zero h2
        subst e0
        rfl
      · rw [← h2]
        exact run_loadCells_list w _ rs h3
    refine StepSim.value (rv := .string ⟨bs.toArray⟩) (w' := w) (m' := m) ?_ (.str _) hR (Trans.refl lo m H w)
    simp only [convert, Sem.run_bind, run_underlying hs, run_underlying hd, Result.andThen_ok, run_underlying he, Conv.bytesToString, hload, ← Array.forIn_toList]
    rw [pbytes_rel (P := P) (m := m) _ (fun n s => rfl) cs rs bs ByteArray.empty h1 hb w]
    simp

/-- The model's slice expression, its bounds told. -/
theorem run_slice {t e : TypeId} {i : TypeInfo} (hu : P.underlying t = some (.slice e)) (hi : P.info? e = some i) {a : Option Addr} {n c : Nat} {lo hi' mx : Option Value} {l h k : Nat}
    (hb : (Instr.sliceBounds true n c lo hi' mx).run P w = .ok (l, h, k) w) :
    (Instr.sliceAt t (.slice a n c) lo hi' mx).run P w = .ok (.slice (if k = l then a else a.map (·.add (l * i.size))) (h - l) (k - l)) w := by
  have h1 : (Instr.sliceAt t (.slice a n c) lo hi' mx).run P w = (Instr.slice t (.slice a n c) lo hi' mx).run P w := by
    unfold Instr.sliceAt
    rw [Sem.run_bind, run_underlying hu, Result.andThen_ok]
  rw [h1]
  unfold Instr.slice
  rw [Sem.run_bind, run_underlying hu, Result.andThen_ok]
  simp [hb, run_sizeOf e i hi]

theorem step_sub {t e : TypeId} {i : TypeInfo} {lo : Nat} {x rx v : Value} {l h mx l' h' mx' : Option Value} {H' : Heap} (hu : P.underlying t = some (.slice e)) (hi : P.info? e = some i)
    (hs : psub i.size x l h mx H = some (v, H')) (hx : RV m x rx) (hl : RO m l l') (hh : RO m h h') (hm : RO m mx mx') (hR : Rel m L0 H w) (hf : ∀ b, H.length ≤ b → b < H'.length → m b = none) :
    StepSim P (do pure (.value (← Instr.sliceAt t rx l' h' mx'))) L0 lo m H w v H' := by
  unfold psub at hs
  split at hs
  · rename_i n c
    split at hs
    · rename_i h0
      obtain ⟨rfl, rfl⟩ := h0
      cases hx
      split at hs
      · cases hs
      · rename_i M hM
        split at hs
        · cases hs
        · rename_i hb hhb
          split at hs
          · cases hs
          · rename_i lb hlb
            cases hs
            have key : ∃ k1 k2 k3, (Instr.sliceBounds true 0 0 l' h' mx').run P w = .ok (k1, k2, k3) w ∧ k1 = 0 ∧ k2 = 0 ∧ k3 = 0 := by
              rcases pbound_rel (P := P) hM hm with ⟨rfl, rfl, e1⟩ | ⟨_, r1, rfl, rfl, q1, e1⟩ <;> rcases pbound_rel (P := P) hhb hh with ⟨_, rfl, e2⟩ | ⟨_, r2, _, rfl, q2, e2⟩ <;> rcases pbound_rel (P := P) hlb hl with ⟨_, rfl, e3⟩ | ⟨_, r3, _, rfl, q3, e3⟩
              · cases e1; cases e2; cases e3
                exact ⟨0, 0, 0, rfl, rfl, rfl, rfl⟩
              · cases e1; cases e2
                exact ⟨lb, 0, 0, by simp [Instr.sliceBounds, e3 0 (Nat.le_refl _)], by omega, rfl, rfl⟩
              · cases e1; cases e3
                exact ⟨0, hb, 0, by simp [Instr.sliceBounds, e2 0 (Nat.le_refl _)], rfl, by omega, rfl⟩
              · cases e1
                exact ⟨lb, hb, 0, by simp [Instr.sliceBounds, e2 0 (Nat.le_refl _), e3 hb (Nat.le_refl _)], by omega, by omega, rfl⟩
              · cases e2
              · cases e2
              · cases e3
                exact ⟨0, hb, M, by simp [Instr.sliceBounds, e1 0 (Nat.le_refl _), e2 M (Nat.le_refl _)], rfl, by omega, by omega⟩
              · exact ⟨lb, hb, M, by simp [Instr.sliceBounds, e1 0 (Nat.le_refl _), e2 M (Nat.le_refl _), e3 hb (Nat.le_refl _)], by omega, by omega, by omega⟩
            obtain ⟨k1, k2, k3, hk, rfl, rfl, rfl⟩ := key
            exact StepSim.value (run_slice hu hi hk) (by simpa using RV.snil) hR (Trans.refl lo m H w)
    · cases hs
  · rename_i b o n c
    cases hx with
    | slice _ _ _ _ lc ra rc hmb hnc hcr hxp ha =>
      split at hs
      · rename_i cells es p hbk
        obtain ⟨g1, g2, g3, g4⟩ := hR.row b lc cells es p hmb hbk
        split at hs
        · rename_i hes
          subst hes
          split at hs
          · cases hs
          · rename_i M hM
            split at hs
            · cases hs
            · rename_i hb hhb
              split at hs
              · cases hs
              · rename_i lb hlb
                -- the model's bounds
                have key : ∃ k3, (Instr.sliceBounds true n rc l' h' mx').run P w = .ok (lb, hb, k3) w ∧ lb ≤ hb ∧ hb ≤ M ∧ M ≤ c ∧ ((mx = none ∧ k3 = rc ∧ M = c) ∨ (mx.isSome = true ∧ k3 = M)) := by
                  rcases pbound_rel (P := P) hM hm with ⟨rfl, rfl, e1⟩ | ⟨_, r1, rfl, rfl, q1, e1⟩ <;> rcases pbound_rel (P := P) hhb hh with ⟨_, rfl, e2⟩ | ⟨_, r2, _, rfl, q2, e2⟩ <;> rcases pbound_rel (P := P) hlb hl with ⟨_, rfl, e3⟩ | ⟨_, r3, _, rfl, q3, e3⟩
                  · cases e1; cases e2; cases e3
                    exact ⟨rc, rfl, Nat.zero_le _, hnc, Nat.le_refl _, .inl ⟨rfl, rfl, rfl⟩⟩
                  · cases e1; cases e2
                    exact ⟨rc, by simp [Instr.sliceBounds, e3 n (Nat.le_refl _)], q3, hnc, Nat.le_refl _, .inl ⟨rfl, rfl, rfl⟩⟩
                  · cases e1; cases e3
                    exact ⟨rc, by simp [Instr.sliceBounds, e2 rc hcr], Nat.zero_le _, q2, Nat.le_refl _, .inl ⟨rfl, rfl, rfl⟩⟩
                  · cases e1
                    exact ⟨rc, by simp [Instr.sliceBounds, e2 rc hcr, e3 hb (Nat.le_refl _)], q3, q2, Nat.le_refl _, .inl ⟨rfl, rfl, rfl⟩⟩
                  · cases e2
                  · cases e2
                  · cases e3
                    exact ⟨M, by simp [Instr.sliceBounds, e1 rc hcr, e2 M (Nat.le_refl _)], Nat.zero_le _, q2, q1, .inr ⟨rfl, rfl⟩⟩
                  · exact ⟨M, by simp [Instr.sliceBounds, e1 rc hcr, e2 M (Nat.le_refl _), e3 hb (Nat.le_refl _)], q3, q2, q1, .inr ⟨rfl, rfl⟩⟩
                obtain ⟨k3, hk, hlh, hhM, hMc, hcase⟩ := key
                have hrun := run_slice (a := some ra) hu hi hk
                -- the place at which the new slice begins
                have place : k3 - lb = 0 ∨ ((if k3 = lb then some ra else (some ra).map (·.add (lb * i.size))) = some (⟨lc.rb, lc.base + (o + lb * i.size), none⟩ : Addr) ∧ lc.base + (o + lb * i.size) + (k3 - lb) * lc.esz ≤ lc.rsz) := by
                  by_cases hz : k3 - lb = 0
                  · exact .inl hz
                  · right
                    have hk3 : k3 ≤ rc := by rcases hcase with ⟨_, rfl, _⟩ | ⟨_, rfl⟩ <;> omega
                    rcases ha with ha | ⟨rfl, ha⟩
                    · omega
                    · rw [if_neg (by omega)]
                      refine ⟨by simp [Addr.add_lit, Nat.add_assoc], ?_⟩
                      rw [g1] at ha ⊢
                      have e1 : (k3 - lb) * i.size = k3 * i.size - lb * i.size := Nat.sub_mul _ _ _
                      have e2 : lb * i.size ≤ k3 * i.size := Nat.mul_le_mul_right _ (by omega)
                      have e3 : k3 * i.size ≤ rc * i.size := Nat.mul_le_mul_right _ hk3
                      omega
                obtain ⟨ra', hra'⟩ : ∃ ra', (if k3 = lb then some ra else (some ra).map (·.add (lb * i.size))) = some ra' := by split <;> exact ⟨_, rfl⟩
                rw [hra'] at hrun
                have place' : k3 - lb = 0 ∨ (ra' = ⟨lc.rb, lc.base + (o + lb * i.size), none⟩ ∧ lc.base + (o + lb * i.size) + (k3 - lb) * lc.esz ≤ lc.rsz) := by
                  rcases place with hp | ⟨hp1, hp2⟩
                  · exact .inl hp
                  · rw [hra'] at hp1
                    exact .inr ⟨by injection hp1, hp2⟩
                split at hs
                · rename_i hemp
                  cases hs
                  obtain ⟨hsome, hMl⟩ := hemp
                  rcases hcase with ⟨rfl, _⟩ | ⟨_, rfl⟩
                  · cases hsome
                  · have hA := empty_rel hR (hf H.length (Nat.le_refl _) (by simp)) hmb i.size
                    refine StepSim.value (rv := .slice (some ra') 0 0) (by rw [hrun]; congr 2 <;> omega) ?_ hA.1 (hA.2 lo)
                    exact .slice _ 0 0 0 _ _ 0 (bindAt_same m _ _) (Nat.le_refl _) (Nat.le_refl _) (fun _ => rfl) (.inl rfl)
                · cases hs
                  refine StepSim.value hrun ?_ hR (Trans.refl lo m H w)
                  refine .slice b _ _ _ lc _ _ hmb (by omega) ?_ ?_ place'
                  · rcases hcase with ⟨_, rfl, rfl⟩ | ⟨_, rfl⟩ <;> omega
                  · intro ho
                    have := hxp ho
                    rcases hcase with ⟨_, rfl, rfl⟩ | ⟨_, rfl⟩ <;> omega
        · cases hs
      · cases hs
  · cases hs

end
end Go.PM
