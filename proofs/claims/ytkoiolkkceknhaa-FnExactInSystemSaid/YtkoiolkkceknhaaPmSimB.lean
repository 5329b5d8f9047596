/- The pure machine's operations that look at values alone, second part: all of them. -/
import Derived.Test.YtkoiolkkceknhaaPmSimA
namespace Go.PM

section
variable {P : Program} {m : PMap}

theorem eqCell_rel {k : CK} {a b a' b' : Value} {c : Bool} (ha : RV m a a') (hb : RV m b b') (h : eqCell k a b = some c) : eqCell k a' b' = some c := by
  cases k
  · obtain ⟨k, n, n', rfl, rfl, rfl⟩ := eqCell_int h
    cases ha; cases hb; exact h
  · obtain ⟨n, n', rfl, rfl, rfl⟩ := eqCell_bool h
    cases ha; cases hb; exact h
  · obtain ⟨n, n', rfl, rfl, rfl⟩ := eqCell_str h
    cases ha; cases hb; exact h
theorem eqCells_rel : ∀ {ks : List CK} {xs ys xs' ys' : List Value} {r : Bool}, RL m xs xs' → RL m ys ys' → eqCells ks xs ys = some r → eqCells ks xs' ys' = some r := by
  intro ks
  induction ks with
  | nil =>
    intro xs ys xs' ys' r hx hy h
    cases xs with
    | cons x xs => cases ys <;> cases h
    | nil =>
      cases ys with
      | cons y ys => cases h
      | nil =>
        have e1 : xs' = [] := List.eq_nil_of_length_eq_zero hx.1.symm
        have e2 : ys' = [] := List.eq_nil_of_length_eq_zero hy.1.symm
        subst e1; subst e2; exact h
  | cons k ks ih =>
    intro xs ys xs' ys' r hx hy h
    cases xs with
    | nil => cases ys <;> cases h
    | cons x xs =>
      cases ys with
      | nil => cases h
      | cons y ys =>
        cases xs' with
        | nil => exact absurd hx.1 (by simp)
        | cons x' xs' =>
          cases ys' with
          | nil => exact absurd hy.1 (by simp)
          | cons y' ys' =>
            rw [eqCells] at h ⊢
            cases hc : eqCell k x y with
            | none => rw [hc] at h; cases h
            | some c =>
              rw [hc] at h
              rw [eqCell_rel hx.uncons.1 hy.uncons.1 hc]
              cases c
              · exact h
              · exact ih hx.uncons.2 hy.uncons.2 h

theorem sim_eqagg {neg : Bool} {t : TypeId} {x y : Operand} {a b : Array Value} {ks : List CK} {r : Bool} (h : plainStruct P t = some ks) (he : eqCells ks a.toList b.toList = some r) (w : World) :
    (do eqGuard (if neg then .neq else .eql) t x y (.agg a) (.agg b); binOp (if neg then .neq else .eql) t (.agg a) (.agg b) : Sem Value).run P w = .ok (.bool (r != neg)) w := by
  unfold plainStruct at h
  split at h
  · rename_i fs hu
    split at h
    · cases h
    · rename_i hg
      simp only [Bool.or_eq_true, not_or, Bool.not_eq_true] at hg
      have hfo : P.fieldsOf t = fs := by simp [Program.fieldsOf, hu]
      have hh : (Op.equal t (.agg a) (.agg b)).run P w = .ok r w := by
        show (Op.equalIn (9998 + 1 + 1) t (.agg a) (.agg b)).run P w = _
        rw [run_equalIn_struct w (9998 + 1) t a b (by rw [hfo]; exact hu) hg.1, hfo]
        exact sim_eqFields 9998 a b w fs.toList ks 0 r h (by simpa using he)
      have hgd : ∀ op, (eqGuard op t x y (.agg a) (.agg b)).run P w = .ok () w := by
        intro op
        cases op <;> first | rfl | (show ((program >>= fun p => program >>= fun q => _) : Sem Unit).run P w = _; simp [hg.2])
      rw [Sem.run_bind, hgd, Result.andThen_ok]
      cases neg
      · show ((Op.equal t (.agg a) (.agg b)) >>= fun r => pure (.bool r) : Sem Value).run P w = _
        rw [Sem.run_bind, hh]
        cases r <;> rfl
      · show ((Op.equal t (.agg a) (.agg b)) >>= fun r => pure (.bool !r) : Sem Value).run P w = _
        rw [Sem.run_bind, hh]
        cases r <;> rfl
  · cases h

theorem sim_un {op : UnOp} {v vx rx : Value} (hv : pun op vx = some v) (hx : RV m vx rx) : ∃ rv, RV m v rv ∧ ∀ w, (Op.unary op rx).run P w = .ok rv w := by
  unfold pun at hv
  split at hv
  · cases hx; cases hv; exact ⟨_, .int _ _, fun w => rfl⟩
  · cases hx; cases hv; exact ⟨_, .bool _, fun w => rfl⟩
  · cases hv

theorem RL.getElem? {xs ys : List Value} (h : RL m xs ys) (i : Nat) (v : Value) (hv : xs[i]? = some v) : ∃ r, ys[i]? = some r ∧ RV m v r := by
  have hi := (List.getElem?_eq_some_iff.1 hv).1
  have hr := h.2 i hi
  have hi' : i < ys.length := h.1 ▸ hi
  refine ⟨ys[i], List.getElem?_eq_getElem hi', ?_⟩
  simp only [List.getD_eq_getElem?_getD, hv, List.getElem?_eq_getElem hi', Option.getD_some] at hr
  exact hr

theorem sim_fld {t : TypeId} {fs : Array Field} {i : Nat} {f : Field} {agg : Bool} {size : Nat} {z : List Value} {by_ : Nat} {v : Value} {cs rs : Array Value} (hu : P.underlying t = some (.struct fs)) (hf : fs[i]? = some f)
    (ht : tinfo P f.type = some (agg, size, z, by_)) (hv : (if agg then (if f.offset + size ≤ cs.size then some (Value.agg (cs.extract f.offset (f.offset + size))) else none) else cs[f.offset]?) = some v)
    (hr : RL m cs.toList rs.toList) : ∃ rv, RV m v rv ∧ ∀ w, (Instr.field t (.agg rs) i).run P w = .ok rv w := by
  unfold tinfo at ht
  split at ht
  · rename_i n d hn hd
    split at ht
    · rename_i z' hz
      cases ht
      have hrun : ∀ w, (Instr.field t (.agg rs) i).run P w = (part f.type rs f.offset).run P w := by
        intro w
        unfold Instr.field
        rw [Sem.run_bind, run_underlying hu, Result.andThen_ok]
        simp [hf, asAgg]
      cases ha : isAggD d with
      | true =>
        rw [ha] at hv
        simp only [if_true] at hv
        split at hv
        · rename_i hb
          cases hv
          refine ⟨.agg (rs.extract f.offset (f.offset + n.size)), ?_, fun w => by rw [hrun, run_part_agg f.type d n hd hn ha]⟩
          have h1 : rs.size = cs.size := by simpa using hr.1.symm
          refine .agg _ _ (by simp [h1]) fun j hj => ?_
          simp only [Array.size_extract] at hj
          have := hr.2 (f.offset + j) (by simp; omega)
          simp only [Array.getD_eq_getD_getElem?, Array.getElem?_extract]
          simpa [show j < min (f.offset + n.size) cs.size - f.offset by omega, show j < min (f.offset + n.size) rs.size - f.offset by omega] using this
        · cases hv
      | false =>
        rw [ha] at hv
        simp only [Bool.false_eq_true, if_false] at hv
        obtain ⟨r, h1, h2⟩ := hr.getElem? f.offset v (by simpa using hv)
        obtain ⟨hlt, he⟩ := Array.getElem?_eq_some_iff.1 (show rs[f.offset]? = some r by simpa using h1)
        exact ⟨r, h2, fun w => by rw [hrun, run_part_one f.type d hd ha rs f.offset hlt, he]⟩
    · cases ht
  · cases ht

/-- What 'fill' does to the cells, one part after another. -/
theorem foldl_set (l : List Value) : ∀ (off j : Nat) (cs : Array Value), off + j + l.length ≤ cs.size →
    ((l.zipIdx j).foldl (fun (cs : Array Value) (x : Value × Nat) => cs.setIfInBounds (off + x.2) x.1) cs).toList = cs.toList.take (off + j) ++ l ++ cs.toList.drop (off + j + l.length) := by
  induction l with
  | nil => intro off j cs h; simp
  | cons x l ih =>
    intro off j cs h
    simp only [List.length_cons] at h
    simp only [List.zipIdx_cons, List.foldl_cons]
    rw [ih off (j + 1) _ (by simp; omega)]
    simp only [Array.toList_setIfInBounds, List.length_cons]
    have hlt : off + j < cs.toList.length := by simp; omega
    have e1 : (cs.toList.set (off + j) x).take (off + (j + 1)) = cs.toList.take (off + j) ++ [x] := by
      rw [show off + (j + 1) = off + j + 1 by omega, List.take_add_one, List.take_set]
      have : (cs.toList.set (off + j) x)[off + j]? = some x := by simp [List.getElem?_set]; simpa using hlt
      rw [this, List.set_eq_of_length_le (by simp; omega)]
      rfl
    have e2 : (cs.toList.set (off + j) x).drop (off + (j + 1) + l.length) = cs.toList.drop (off + j + (l.length + 1)) := by
      rw [List.drop_set]
      rw [if_pos (by omega)]
      congr 1
      omega
    rw [e1, e2]
    simp

theorem fill_rel (places : List (Nat × Nat)) (place : Nat → Option (Nat × Nat)) (hpl : ∀ i q, places[i]? = some q → place i = some q) : ∀ (ps qs : List (Nat × Value)) (cs : List Value) (rs : Array Value) (out : List Value),
    ps.map (·.1) = qs.map (·.1) → RL m (ps.map (·.2)) (qs.map (·.2)) → RL m cs rs.toList → pfill places cs ps = some out → ∃ rout, Instr.fill place rs qs = some rout ∧ RL m out rout.toList := by
  intro ps
  induction ps with
  | nil =>
    intro qs cs rs out hi hv hc h
    cases qs with
    | cons q qs => cases hi
    | nil => cases h; exact ⟨rs, rfl, hc⟩
  | cons p ps ih =>
    intro qs cs rs out hi hv hc h
    cases qs with
    | nil => cases hi
    | cons q qs =>
      obtain ⟨i, v⟩ := p
      obtain ⟨i', r⟩ := q
      simp only [List.map_cons, List.cons.injEq] at hi
      obtain ⟨rfl, hi⟩ := hi
      simp only [List.map_cons] at hv
      obtain ⟨hvr, hrest⟩ := hv.uncons
      rw [pfill] at h
      rw [Instr.fill]
      cases hp : places[i]? with
      | none => rw [hp] at h; cases h
      | some os =>
        obtain ⟨off, size⟩ := os
        rw [hp] at h
        rw [hpl i _ hp]
        simp only at h ⊢
        split at h
        · rename_i hs
          have hl : (pcells r).length = (pcells v).length := hvr.pcells.1.symm
          have hsz : rs.size = cs.length := by simpa using hc.1.symm
          have hcond : ¬ ((decide (r.cells.size ≠ size) || decide (off + r.cells.size > rs.size)) = true) := by
            rw [pcells_size, hl, hs.1, hsz]
            simp
            omega
          rw [if_neg (by simpa using hcond)]
          refine ih qs _ _ out hi hrest ?_ h
          have hr : r.cells.zipIdx.foldl (fun (cs : Array Value) (x : Value × Nat) => cs.setIfInBounds (off + x.2) x.1) rs = (((pcells r).zipIdx 0).foldl (fun (cs : Array Value) (x : Value × Nat) => cs.setIfInBounds (off + x.2) x.1) rs) := by
            rw [← pcells_toList, ← Array.foldl_toList, Array.toList_zipIdx]
          have hfold := foldl_set (pcells r) off 0 rs (by rw [hl, hs.1, hsz]; omega)
          show RL m _ (r.cells.zipIdx.foldl (fun (cs : Array Value) (x : Value × Nat) => cs.setIfInBounds (off + x.2) x.1) rs).toList
          rw [hr, hfold]
          simp only [Nat.add_zero]
          rw [hl, hs.1]
          exact ((hc.take off).append hvr.pcells).append (hc.drop (off + size))
        · cases h

theorem pfill_length (places : List (Nat × Nat)) : ∀ (ps : List (Nat × Value)) (cs out : List Value), pfill places cs ps = some out → out.length = cs.length := by
  intro ps
  induction ps with
  | nil => intro cs out h; cases h; rfl
  | cons p ps ih =>
    intro cs out h
    obtain ⟨i, v⟩ := p
    rw [pfill] at h
    split at h
    · cases h
    · split at h
      · rename_i hs
        rw [ih _ _ h]
        simp only [List.length_append, List.length_take, List.length_drop, hs.1]
        omega
      · cases h

end
end Go.PM
