/- The pure machine's operations that look at values alone: joined. -/
import Derived.Test.YtkoiolkkceknhaaPmSimC
namespace Go.PM

section
variable {P : Program} {m : PMap}

theorem RO.map {ρ : Env} {a : Act} {x : Option Operand} (h : ∀ y, x = some y → RV m (ev ρ y) (a.eval y)) : RO m (x.map (ev ρ)) (x.map a.eval) := by
  cases x with
  | none => trivial
  | some y => exact h y rfl

theorem isConst_nil {y : Operand} (h : isNilC y = true) : y = .const (.slice none 0 0) := by
  unfold isNilC at h
  split at h
  · rfl
  · cases h

theorem sim_prepBin {op : BinOp} {t : TypeId} {x y : Operand} {po : POp} {ρ : Env} {a : Act} {v : Value} (hp : prepBin P op t x y = some po) (hv : ppure po ρ = some v)
    (hx : RV m (ev ρ x) (a.eval x)) (hy : RV m (ev ρ y) (a.eval y)) :
    ∃ rv, RV m v rv ∧ ∀ w, (do eqGuard op t x y (a.eval x) (a.eval y); binOp op t (a.eval x) (a.eval y) : Sem Value).run P w = .ok rv w := by
  unfold prepBin at hp
  split at hp
  · cases hp; exact sim_bin hv hx hy
  · cases hp; exact sim_bin hv hx hy
  · rename_i hu
    split at hp <;> first | (cases hp; done) | skip
    all_goals
      cases hp
      simp only [ppure] at hv
      generalize ev ρ x = vx at hx hv
      generalize ev ρ y = vy at hy hv
      generalize a.eval x = rx at hx ⊢
      generalize a.eval y = ry at hy ⊢
      split at hv
      · cases hx; cases hy; cases hv
        first | exact ⟨_, .bool _, fun w => sim_eqb (neg := false) hu w⟩ | exact ⟨_, .bool _, fun w => sim_eqb (neg := true) hu w⟩
      · cases hv
  · rename_i e hu
    split at hp <;> first | (cases hp; done) | skip
    all_goals
      split at hp
      · rename_i hn
        cases hp
        have hy0 := isConst_nil hn
        subst hy0
        simp only [ppure] at hv
        generalize ev ρ x = vx at hx hv
        show ∃ rv, RV m v rv ∧ ∀ w, (do eqGuard _ t x _ (a.eval x) (.slice none 0 0); binOp _ t (a.eval x) (.slice none 0 0) : Sem Value).run P w = .ok rv w
        generalize a.eval x = rx at hx ⊢
        split at hv
        · cases hv
          cases hx
          first | exact ⟨_, .bool _, fun w => sim_isnil (neg := false) hu w⟩ | exact ⟨_, .bool _, fun w => sim_isnil (neg := true) hu w⟩
        · cases hv
          cases hx
          first | exact ⟨_, .bool _, fun w => sim_isnil (neg := false) hu w⟩ | exact ⟨_, .bool _, fun w => sim_isnil (neg := true) hu w⟩
        · cases hv
      · cases hp
  · split at hp <;> first | (cases hp; done) | skip
    all_goals
      rename_i ks hks
      cases hp
      simp only [ppure] at hv
      generalize ev ρ x = vx at hx hv
      generalize ev ρ y = vy at hy hv
      generalize a.eval x = rx at hx ⊢
      generalize a.eval y = ry at hy ⊢
      split at hv
      · rename_i f g
        cases hx with
        | agg _ f' h1 h2 =>
          cases hy with
          | agg _ g' h3 h4 =>
            cases hc : eqCells ks f.toList g.toList with
            | none => rw [hc] at hv; cases hv
            | some r =>
              rw [hc] at hv
              cases hv
              have hc' := eqCells_rel (RL.arr h1 h2) (RL.arr h3 h4) hc
              first | exact ⟨_, .bool _, fun w => sim_eqagg (neg := false) hks hc' w⟩ | exact ⟨_, .bool _, fun w => sim_eqagg (neg := true) hks hc' w⟩
      · cases hv
  · cases hp

theorem sim_build {t : TypeId} {fs : Array Field} {z : List Value} {agg : Bool} {size n : Nat} {places : List (Nat × Nat)} {parts : List (Nat × Operand)} {ρ : Env} {a : Act} {cs : List Value}
    (hu : P.underlying t = some (.struct fs)) (ht : tinfo P t = some (agg, size, z, n)) (hz : z.all constOk = true)
    (hp : fs.toList.mapM (fun f => (P.info? f.type).map fun i => (f.offset, i.size)) = some places)
    (hf : pfill places z (parts.map fun (i, x) => (i, ev ρ x)) = some cs) (hr : ∀ p ∈ parts, RV m (ev ρ p.2) (a.eval p.2)) :
    ∃ rv, RV m (.agg cs.toArray) rv ∧ ∀ w, (Instr.build t (parts.toArray.map fun (i, x) => (i, a.eval x))).run P w = .ok rv w := by
  obtain ⟨i, d, zz, hi, hd, hzz, rfl, rfl, rfl, rfl⟩ := tinfo_spec ht
  have hpl : ∀ (l : List Field) (ps : List (Nat × Nat)), l.mapM (fun f => (P.info? f.type).map fun i => (f.offset, i.size)) = some ps →
      ∀ w, (l.mapM (fun f => do pure (f.offset, ← sizeOf f.type)) : Sem (List (Nat × Nat))).run P w = .ok ps w := by
    intro l
    induction l with
    | nil => intro ps h w; cases h; rfl
    | cons f l ih =>
      intro ps h w
      simp only [List.mapM_cons, Option.pure_def, Option.bind_eq_bind] at h
      cases h1 : P.info? f.type with
      | none => rw [h1] at h; cases h
      | some j =>
        rw [h1] at h
        simp only [Option.map_some, Option.bind_some] at h
        cases h2 : l.mapM (fun f => (P.info? f.type).map fun i => (f.offset, i.size)) with
        | none => rw [h2] at h; cases h
        | some qs =>
          rw [h2] at h
          cases h
          simp only [List.mapM_cons, Sem.run_bind, run_sizeOf f.type j h1, Result.andThen_ok, Sem.run_pure, ih qs h2 w]
  have hzr : RL m (pcells zz) (pcells zz) := by
    refine ⟨rfl, fun j hj => ?_⟩
    have hm : (pcells zz)[j] ∈ pcells zz := List.getElem_mem hj
    have := RV.const (m := m) (List.all_eq_true.1 hz _ hm)
    simpa [List.getD_eq_getElem?_getD, List.getElem?_eq_getElem hj] using this
  obtain ⟨rout, h1, h2⟩ := fill_rel (m := m) places (places[·]?) (fun _ _ h => h) (parts.map fun (i, x) => (i, ev ρ x)) (parts.map fun (i, x) => (i, a.eval x)) (pcells zz) zz.cells cs
    (by simp [Function.comp_def]) (by simpa [Function.comp_def] using RL.map (l := parts) (f := fun p => ev ρ p.2) (g := fun p => a.eval p.2) hr) (by rw [pcells_toList]; exact hzr) hf
  refine ⟨.agg rout, RL.toAgg h2, fun w => ?_⟩
  unfold Instr.build
  have hmap : (fs.mapM fun f => do pure (f.offset, ← sizeOf f.type) : Sem (Array (Nat × Nat))).run P w = .ok places.toArray w := by
    rw [← Array.toArray_toList (xs := fs), List.mapM_toArray]
    rw [Sem.run_map, hpl _ _ hp]
    rfl
  simp only [Sem.run_bind, zeroValue, typeInfo, run_program, Result.andThen_ok, hi, Sem.run_pure, hzz, run_underlying hu, hmap]
  have e : (Array.map (fun x : Nat × Operand => (x.1, a.eval x.2)) parts.toArray).toList = parts.map fun (i, x) => (i, a.eval x) := by simp
  have e2 : (fun x : Nat => (places.toArray)[x]?) = (fun x => places[x]?) := by funext x; simp
  simp only [e2]
  have h1' : Instr.fill (fun x => places[x]?) zz.cells (Array.map (fun x : Nat × Operand => (x.1, a.eval x.2)) parts.toArray).toList = some rout := by rw [e]; exact h1
  simp only [h1']
  rfl

theorem map_one (f : Operand → Value) (x : Operand) : (#[x] : Array Operand).map f = #[f x] := by simp
theorem map_two (f : Operand → Value) (x y : Operand) : (#[x, y] : Array Operand).map f = #[f x, f y] := by simp

theorem sim_prepBuiltin {b : Builtin} {args : Array Operand} {ts : Array TypeId} {ty : TypeId} {cs : Array Bool} {po : POp} {ρ : Env} {a : Act} {v : Value} (hp : prepBuiltin P b args ts = some po) (hv : ppure po ρ = some v)
    (hr : ∀ x ∈ args, RV m (ev ρ x) (a.eval x)) : ∃ rv, RV m v rv ∧ ∀ w, (builtin b ts ty cs (args.map a.eval)).run P w = .ok (.value rv) w := by
  unfold prepBuiltin at hp
  split at hp
  · rename_i x t trest hargs hts
    have ea : args = #[x] := Array.toList_inj.1 (by simpa using hargs)
    have et : ts = (t :: trest).toArray := Array.toList_inj.1 (by simpa using hts)
    subst ea; subst et
    have hx := hr x (by simp)
    rw [map_one]
    split at hp
    · rename_i hu
      cases hp
      simp only [ppure] at hv
      generalize ev ρ x = vx at hx hv
      generalize a.eval x = rx at hx ⊢
      split at hv
      · cases hx; cases hv
        exact ⟨_, .int _ _, fun w => run_value (by simp [Builtin.len_, run_underlying hu, goInt])⟩
      · cases hv
    · rename_i e hu
      cases hp
      simp only [ppure] at hv
      generalize ev ρ x = vx at hx hv
      generalize a.eval x = rx at hx ⊢
      split at hv
      · cases hv
        cases hx
        · exact ⟨_, .int _ _, fun w => run_value (by simp [Builtin.len_, run_underlying hu, goInt])⟩
        · exact ⟨_, .int _ _, fun w => run_value (by simp [Builtin.len_, run_underlying hu, goInt])⟩
      · cases hv
    · cases hp
  · rename_i x t trest hargs hts
    have ea : args = #[x] := Array.toList_inj.1 (by simpa using hargs)
    have et : ts = (t :: trest).toArray := Array.toList_inj.1 (by simpa using hts)
    subst ea; subst et
    have hx := hr x (by simp)
    rw [map_one]
    split at hp
    · rename_i e hu
      cases hp
      simp only [ppure] at hv
      generalize ev ρ x = vx at hx hv
      generalize a.eval x = rx at hx ⊢
      split at hv
      · cases hv
        cases hx
        exact ⟨_, .int _ _, fun w => run_value (by simp [Builtin.cap_, run_underlying hu, goInt])⟩
      · cases hv
    · cases hp
  · rename_i x y hargs
    have ea : args = #[x, y] := Array.toList_inj.1 (by simpa using hargs)
    subst ea
    have hx := hr x (by simp)
    have hy := hr y (by simp)
    rw [map_two]
    cases hp
    simp only [ppure] at hv
    generalize ev ρ x = vx at hx hv
    generalize a.eval x = rx at hx ⊢
    generalize ev ρ y = vy at hy hv
    generalize a.eval y = ry at hy ⊢
    split at hv
    · cases hv
      cases hx
      cases hy
      exact ⟨_, .int _ _, fun w => run_value (by rfl)⟩
    · cases hv
  · rename_i x y hargs
    have ea : args = #[x, y] := Array.toList_inj.1 (by simpa using hargs)
    subst ea
    have hx := hr x (by simp)
    have hy := hr y (by simp)
    rw [map_two]
    cases hp
    simp only [ppure] at hv
    generalize ev ρ x = vx at hx hv
    generalize a.eval x = rx at hx ⊢
    generalize ev ρ y = vy at hy hv
    generalize a.eval y = ry at hy ⊢
    split at hv
    · cases hv
      cases hx
      cases hy
      exact ⟨_, .int _ _, fun w => run_value (by rfl)⟩
    · cases hv
  · split at hp
    · split at hp
      · cases hp; cases hv
      · cases hp
    · split at hp
      · split at hp
        · cases hp; cases hv
        · cases hp
      · cases hp
    · cases hp
  · split at hp
    · cases hp; cases hv
    · cases hp
  · split at hp
    · split at hp
      · cases hp; cases hv
      · cases hp
    · cases hp
  · cases hp

theorem sim_pure {o : Oper} {po : POp} {ρ : Env} {a : Act} {v : Value} (hp : prepOp P o.op = some po) (hv : ppure po ρ = some v) (hr : ∀ x ∈ o.op.operands, RV m (ev ρ x) (a.eval x)) :
    ∃ rv, RV m v rv ∧ ∀ w, (execOp a.eval o).run P w = .ok (.value rv) w := by
  obtain ⟨dst, op, type, pos, after, guard⟩ := o
  unfold prepOp at hp
  simp only at hp hr ⊢
  split at hp
  case isFalse => cases hp
  cases op with
  | move x => cases hp; cases hv; exact ⟨_, hr x (by simp [Op.operands]), fun w => rfl⟩
  | assign x => cases hp; cases hv; exact ⟨_, hr x (by simp [Op.operands]), fun w => rfl⟩
  | pick c x y =>
    cases hp
    have hc := hr c (by simp [Op.operands])
    have hx := hr x (by simp [Op.operands])
    have hy := hr y (by simp [Op.operands])
    simp only [ppure] at hv
    split at hv
    · rename_i t ht
      rw [ht] at hc
      cases hv
      generalize hrc : a.eval c = rc at hc
      cases hc
      cases t
      · exact ⟨_, hy, fun w => by simp [execOp, hrc, asBool]⟩
      · exact ⟨_, hx, fun w => by simp [execOp, hrc, asBool]⟩
    · cases hv
  | binOp op t x y yt =>
    obtain ⟨rv, h1, h2⟩ := sim_prepBin hp hv (hr x (by simp [Op.operands])) (hr y (by simp [Op.operands]))
    exact ⟨rv, h1, fun w => run_value (h2 w)⟩
  | unOp op t x =>
    cases hp
    obtain ⟨rv, h1, h2⟩ := sim_un hv (hr x (by simp [Op.operands]))
    exact ⟨rv, h1, fun w => run_value (h2 w)⟩
  | extract x i =>
    cases hp
    have hx := hr x (by simp [Op.operands])
    simp only [ppure] at hv
    split at hv
    · rename_i vs hvs
      rw [hvs] at hx
      generalize hrx : a.eval x = rx at hx
      cases hx with
      | tuple _ g h1 h2 =>
        obtain ⟨r, h3, h4⟩ := (RL.arr h1 h2).getElem? i v (by simpa using hv)
        have h3' : g[i]? = some r := by simpa using h3
        exact ⟨r, h4, fun w => run_value (by simp [hrx, Instr.extract, h3'])⟩
    · cases hv
  | convert s d x =>
    have hx := hr x (by simp [Op.operands])
    simp only at hp
    split at hp
    · rename_i k1 k2 hs hd
      cases hp
      simp only [ppure] at hv
      split at hv
      · rename_i n hn
        cases hv
        rw [hn] at hx
        generalize hrx : a.eval x = rx at hx
        cases hx
        exact ⟨_, .int _ _, fun w => run_value (by simp [hrx, convert, run_underlying hs, run_underlying hd, Conv.intToInt])⟩
      · cases hv
    · rename_i hs hd
      cases hp
      simp only [ppure] at hv
      split at hv
      · rename_i n hn
        cases hv
        rw [hn] at hx
        generalize hrx : a.eval x = rx at hx
        cases hx
        exact ⟨_, .str _, fun w => run_value (by simp [hrx, convert, run_underlying hs, run_underlying hd])⟩
      · cases hv
    · split at hp
      · cases hp; simp [ppure] at hv
      · cases hp
    · cases hp
  | field t x i =>
    have hx := hr x (by simp [Op.operands])
    simp only at hp
    split at hp
    · rename_i fs hu
      split at hp
      · rename_i f hf
        cases ht : tinfo P f.type with
        | none => rw [ht] at hp; cases hp
        | some q =>
          obtain ⟨agg, size, z, n⟩ := q
          rw [ht] at hp
          cases hp
          simp only [ppure] at hv
          split at hv
          · rename_i cs hcs
            rw [hcs] at hx
            generalize hrx : a.eval x = rx at hx
            cases hx with
            | agg _ g h1 h2 =>
              obtain ⟨rv, h3, h4⟩ := sim_fld hu hf ht hv (RL.arr h1 h2)
              exact ⟨rv, h3, fun w => run_value (by rw [hrx]; exact h4 w)⟩
          · cases hv
      · cases hp
    · cases hp
  | build t parts =>
    simp only at hp
    split at hp
    · rename_i fs agg size z n hu ht
      split at hp
      · rename_i places hpl
        split at hp
        · rename_i hz
          cases hp
          simp only [ppure] at hv
          cases hf : pfill places z (parts.toList.map fun (i, x) => (i, ev ρ x)) with
          | none => rw [hf] at hv; cases hv
          | some cs =>
            rw [hf] at hv
            cases hv
            obtain ⟨rv, h1, h2⟩ := sim_build (m := m) (a := a) hu ht hz hpl hf (fun p hpm => hr p.2 (by simp only [Op.operands]; simp; exact ⟨p.1, by simpa using hpm⟩))
            exact ⟨rv, h1, fun w => run_value (by simpa using h2 w)⟩
        · cases hp
      · cases hp
    · cases hp
  | nilCheck x =>
    cases hp
    have hx := hr x (by simp [Op.operands])
    simp only [ppure] at hv
    split at hv
    · rename_i ad had
      cases hv
      rw [had] at hx
      generalize hrx : a.eval x = rx at hx
      cases hx with
      | ptr b o l h => exact ⟨_, .ptr b o l h, fun w => by simp [execOp, hrx]⟩
    · cases hv
  | fieldAddr t x i =>
    have hx := hr x (by simp [Op.operands])
    simp only at hp
    split at hp
    · rename_i fs hu
      split at hp
      · rename_i f hf
        split at hp
        · rename_i i0 hi0
          split at hp
          · cases hp
          · rename_i hs
            cases hp
            simp only [ppure] at hv
            split at hv
            · rename_i b o hbo
              cases hv
              rw [hbo] at hx
              obtain ⟨rv, h1, h2⟩ := sim_faddr hu hf hi0 hs hx
              exact ⟨rv, h1, fun w => run_value (h2 w)⟩
            · cases hv
        · cases hp
      · cases hp
    · cases hp
  | indexAddr t x i =>
    have hx := hr x (by simp [Op.operands])
    have hi := hr i (by simp [Op.operands])
    simp only at hp
    cases ht : elemInfo P t with
    | none => rw [ht] at hp; cases hp
    | some q =>
      obtain ⟨agg, size, z, n⟩ := q
      rw [ht] at hp
      cases hp
      obtain ⟨e, hu, hte⟩ := elemInfo_spec ht
      obtain ⟨i0, d, zz, hi0, _, _, _, rfl, _, _⟩ := tinfo_spec hte
      simp only [ppure] at hv
      split at hv
      · rename_i b o n' c k j hb hj
        split at hv
        · rename_i hlt
          cases hv
          rw [hb] at hx
          rw [hj] at hi
          generalize hri : a.eval i = ri at hi
          cases hi
          obtain ⟨rv, h1, h2⟩ := sim_iaddr (k := k) hu hi0 hx hlt
          exact ⟨rv, h1, fun w => run_value (by rw [hri]; exact h2 w)⟩
        · cases hv
      · cases hv
  | index t x i =>
    have hx := hr x (by simp [Op.operands])
    have hi := hr i (by simp [Op.operands])
    simp only at hp
    split at hp
    · rename_i hu
      cases hp
      simp only [ppure] at hv
      split at hv
      · rename_i s k j hb hj
        split at hv
        · rename_i hlt
          cases hv
          rw [hb] at hx
          rw [hj] at hi
          generalize hri : a.eval i = ri at hi
          generalize hrx : a.eval x = rx at hx
          cases hi
          cases hx
          exact ⟨_, .int _ _, fun w => run_value (by rw [hri, hrx]; exact sim_sidx hu hlt w)⟩
        · cases hv
      · cases hv
    · cases hp
  | slice t x lo hi mx =>
    have hx := hr x (by simp [Op.operands])
    simp only at hp
    split at hp
    · rename_i hu
      split at hp
      · rename_i hmx
        cases hp
        have hmx' : mx = none := by simpa using hmx
        subst hmx'
        simp only [ppure] at hv
        split at hv
        · rename_i s hs
          split at hv
          · rename_i l h hlh
            cases hv
            rw [hs] at hx
            generalize hrx : a.eval x = rx at hx
            cases hx
            exact ⟨_, .str _, fun w => run_value (by
              rw [hrx]
              exact sim_ssub hu hlh (RO.map fun y hy => hr y (by simp [Op.operands, hy])) (RO.map fun y hy => hr y (by simp [Op.operands, hy])) w)⟩
          · cases hv
        · cases hv
      · cases hp
    · rename_i e hu
      cases ht : tinfo P e with
      | none => rw [ht] at hp; cases hp
      | some q => rw [ht] at hp; cases hp; simp [ppure] at hv
    · cases hp
  | makeFunc fn first caps =>
    cases fn with
    | func f =>
      simp only at hp
      split at hp
      · rename_i hfirst
        cases hp
        cases hv
        have hf0 : first = #[] := by simpa using hfirst
        subst hf0
        have hc : RL m (caps.toList.map (ev ρ)) (caps.toList.map a.eval) := RL.map fun x hx => hr x (by simpa [Op.operands] using hx)
        refine ⟨.func (.func f) #[] (caps.toList.map a.eval).toArray, .func _ _ _ _ _ rfl (fun i hi => absurd hi (by simp)) (by simp) (fun i hi => ?_), fun w => run_value ?_⟩
        · have := hc.2 i (by simpa using hi)
          simpa [Array.getD_eq_getD_getElem?, List.getD_eq_getElem?_getD] using this
        · have : (caps.toList.map a.eval).toArray = caps.map a.eval := Array.toList_inj.1 (by rw [Array.toList_map])
          rw [this]
          simp [Instr.makeFunc]
      · cases hp
    | _ => cases hp
  | makeInterface t x => cases hp; cases hv
  | panic x => cases hp; cases hv
  | load t p =>
    simp only at hp
    cases ht : tinfo P t with
    | none => rw [ht] at hp; cases hp
    | some q => rw [ht] at hp; cases hp; cases hv
  | store t p x =>
    simp only at hp
    cases ht : P.info? t with
    | none => rw [ht] at hp; cases hp
    | some q => rw [ht] at hp; cases hp; cases hv
  | alloc t =>
    simp only at hp
    split at hp
    · split at hp
      · cases hp; cases hv
      · cases hp
    · cases hp
  | box t x => cases hp; cases hv
  | makeSlice t l c =>
    simp only at hp
    split at hp
    · split at hp
      · cases hp; cases hv
      · cases hp
    · cases hp
  | buildSlice t n parts =>
    simp only at hp
    split at hp
    · split at hp
      · cases hp; cases hv
      · cases hp
    · cases hp
  | call c =>
    obtain ⟨callee, args, ts⟩ := c
    cases callee with
    | builtin b =>
      have hra : ∀ x ∈ args, RV m (ev ρ x) (a.eval x) := fun x hx => hr x (by simpa [Op.operands, Call.operands] using hx)
      obtain ⟨rv, h3, h4⟩ := sim_prepBuiltin (ty := type) (cs := args.map fun | .const _ => true | _ => false) hp hv hra
      exact ⟨rv, h3, fun w => h4 w⟩
    | value f =>
      cases f with
      | func g => cases hp; cases hv
      | tmp t => cases hp; cases hv
      | const c => cases hp
      | global g => cases hp
    | invoke r s => cases hp
  | _ => cases hp

end
end Go.PM
