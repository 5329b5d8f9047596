/- Every operation of the pure machine: the model's comes to a related state. -/
import Derived.Test.YtkoiolkkceknhaaPmSimG
namespace Go.PM

section
variable {P : Program} {m : PMap} {L0 : Nat} {H : Heap} {w : World}

theorem pure_out {po : POp} {ρ : Env} {v : Value} {H' : Heap} (h : (ppure po ρ).map (Out.val · H) = some (.val v H')) : ppure po ρ = some v ∧ H' = H := by
  cases hp : ppure po ρ with
  | none => rw [hp] at h; cases h
  | some u => rw [hp] at h; cases h; exact ⟨rfl, rfl⟩

/-- The two kinds of operation: of values alone, or of the heap. -/
def looksPure : POp → Bool
  | .load .. | .sub .. | .b2s _ | .new _ | .box _ | .make .. | .lit .. | .call .. | .store .. | .app .. | .appz .. | .copy .. | .clear .. | .callv .. => false
  | _ => true
theorem pop_pure {lo : Nat} {po : POp} {ρ : Env} (h : looksPure po = true) : pop lo po ρ H = (ppure po ρ).map (.val · H) := by
  cases po <;> first | rfl | cases h

theorem firstCells0 {pv rv : Value} {k : Nat} (size : Nat) (h : plenOf pv = some k) (hr : RV m pv rv) : (Builtin.firstCells size 0 rv).run P w = .ok #[] w := by
  unfold plenOf at h
  split at h
  · cases hr
    · rfl
    · simp only [Builtin.firstCells, Nat.zero_mul]
      rfl
  · cases hr
    simp [Builtin.firstCells]
  · cases h

theorem sim_pop {o : Oper} {po : POp} {ρ : Env} {a : Act} {lo : Nat} {v : Value} {H' : Heap} (hp : prepOp P o.op = some po) (hv : pop lo po ρ H = some (.val v H')) (hr : ∀ x ∈ o.op.operands, RV m (ev ρ x) (a.eval x))
    (hR : Rel m L0 H w) (hlo : L0 ≤ lo) (hf : ∀ b, H.length ≤ b → b < H'.length → m b = none) : StepSim P (execOp a.eval o) L0 lo m H w v H' := by
  by_cases hpure : looksPure po = true
  · rw [pop_pure hpure] at hv
    obtain ⟨h1, rfl⟩ := pure_out hv
    obtain ⟨rv, h2, h3⟩ := sim_pure hp h1 hr
    exact ⟨rv, w, m, .inl (h3 w), h2, hR, Trans.refl lo m _ w⟩
  obtain ⟨dst, op, type, pos, after, guard⟩ := o
  unfold prepOp at hp
  simp only at hp hr ⊢
  split at hp
  case isFalse => cases hp
  cases op with
  | move x => cases hp; exact absurd rfl hpure
  | assign x => cases hp; exact absurd rfl hpure
  | pick c x y => cases hp; exact absurd rfl hpure
  | binOp op t x y yt =>
    unfold prepBin at hp
    simp only at hp
    split at hp
    · cases hp; exact absurd rfl hpure
    · cases hp; exact absurd rfl hpure
    · split at hp <;> first | (cases hp; done) | (cases hp; exact absurd rfl hpure)
    · split at hp <;> first | (cases hp; done) | (split at hp <;> first | (cases hp; done) | (cases hp; exact absurd rfl hpure))
    · split at hp <;> first | (cases hp; done) | (cases hp; exact absurd rfl hpure)
    · cases hp
  | unOp op t x => cases hp; exact absurd rfl hpure
  | extract x i => cases hp; exact absurd rfl hpure
  | convert s d x =>
    have hx := hr x (by simp [Op.operands])
    simp only at hp
    split at hp
    · cases hp; exact absurd rfl hpure
    · cases hp; exact absurd rfl hpure
    · rename_i e hs hd
      split at hp
      · rename_i he
        cases hp
        simp only [pop] at hv
        split at hv
        · rename_i n c hx0
          cases hv
          rw [hx0] at hx
          show StepSim P (do pure (.value (← convert s d (a.eval x)))) L0 lo m H w _ H
          generalize a.eval x = rx at hx ⊢
          cases hx
          refine StepSim.value (rv := .string ByteArray.empty) ?_ (.str _) hR (Trans.refl lo m _ w)
          simp [convert, run_underlying hs, run_underlying hd, run_underlying he, Conv.bytesToString]
        · rename_i b o n c hx0
          split at hv
          · rename_i cs hcs
            cases hb : pbytes cs with
            | none => rw [hb] at hv; cases hv
            | some bs =>
              rw [hb] at hv
              cases hv
              rw [hx0] at hx
              exact step_b2s hs hd he hcs hb hR hx
          · cases hv
        · cases hv
      · cases hp
    · cases hp
  | field t x i =>
    simp only at hp
    split at hp
    · split at hp
      · rename_i f hf'
        cases ht : tinfo P f.type with
        | none => rw [ht] at hp; cases hp
        | some q => rw [ht] at hp; cases hp; exact absurd rfl hpure
      · cases hp
    · cases hp
  | build t parts =>
    simp only at hp
    split at hp
    · split at hp
      · split at hp
        · cases hp; exact absurd rfl hpure
        · cases hp
      · cases hp
    · cases hp
  | nilCheck x => cases hp; exact absurd rfl hpure
  | fieldAddr t x i =>
    simp only at hp
    split at hp
    · split at hp
      · split at hp
        · split at hp
          · cases hp
          · cases hp; exact absurd rfl hpure
        · cases hp
      · cases hp
    · cases hp
  | indexAddr t x i =>
    simp only at hp
    cases ht : elemInfo P t with
    | none => rw [ht] at hp; cases hp
    | some q => rw [ht] at hp; cases hp; exact absurd rfl hpure
  | index t x i =>
    simp only at hp
    split at hp
    · cases hp; exact absurd rfl hpure
    · cases hp
  | slice t x lo' hi mx =>
    have hx := hr x (by simp [Op.operands])
    simp only at hp
    split at hp
    · split at hp
      · cases hp; exact absurd rfl hpure
      · cases hp
    · rename_i e hu
      cases ht : tinfo P e with
      | none => rw [ht] at hp; cases hp
      | some q =>
        obtain ⟨agg, size, z, nb⟩ := q
        rw [ht] at hp
        cases hp
        obtain ⟨i, d, zz, hi', _, _, rfl, rfl, rfl, rfl⟩ := tinfo_spec ht
        simp only [pop] at hv
        cases hs : psub i.size (ev ρ x) (lo'.map (ev ρ)) (hi.map (ev ρ)) (mx.map (ev ρ)) H with
        | none => rw [hs] at hv; cases hv
        | some q =>
          obtain ⟨u, H1⟩ := q
          rw [hs] at hv
          cases hv
          exact step_sub hu hi' hs hx (RO.map fun y hy => hr y (by simp [Op.operands, hy])) (RO.map fun y hy => hr y (by simp [Op.operands, hy])) (RO.map fun y hy => hr y (by simp [Op.operands, hy])) hR hf
    · cases hp
  | makeFunc fn first caps =>
    cases fn with
    | func f =>
      simp only at hp
      split at hp
      · cases hp; exact absurd rfl hpure
      · cases hp
    | _ => cases hp
  | makeInterface t x => cases hp; exact absurd rfl hpure
  | panic x => cases hp; exact absurd rfl hpure
  | load t p =>
    have hx := hr p (by simp [Op.operands])
    simp only at hp
    cases ht : tinfo P t with
    | none => rw [ht] at hp; cases hp
    | some q =>
      obtain ⟨agg, size, z, nb⟩ := q
      rw [ht] at hp
      cases hp
      simp only [pop] at hv
      cases hl : pload agg size (ev ρ p) H with
      | none => rw [hl] at hv; cases hv
      | some u =>
        rw [hl] at hv
        cases hv
        obtain ⟨rv, h1, h2⟩ := pload_rel ht hl hR hx
        exact StepSim.value h2 h1 hR (Trans.refl lo m _ w)
  | store t p x =>
    have hpp := hr p (by simp [Op.operands])
    have hx := hr x (by simp [Op.operands])
    simp only at hp
    cases ht : P.info? t with
    | none => rw [ht] at hp; cases hp
    | some i =>
      rw [ht] at hp
      cases hp
      simp only [pop] at hv
      split at hv
      · rename_i b o hpo
        split at hv
        · rename_i hs
          cases hw : H.write lo b o (pcells (ev ρ x)) with
          | none => rw [hw] at hv; cases hv
          | some H1 =>
            rw [hw] at hv
            cases hv
            rw [hpo] at hpp
            exact step_store ht hpp hx hs hw hR hlo
        · cases hv
      · cases hv
  | alloc t =>
    simp only at hp
    split at hp
    · rename_i agg size z nb ht
      split at hp
      · rename_i hz
        cases hp
        simp only [Bool.and_eq_true] at hz
        cases hv
        exact step_new ht hz.1 hz.2 hR (hf _ (Nat.le_refl _) (by simp))
      · cases hp
    · cases hp
  | box t x =>
    have hx := hr x (by simp [Op.operands])
    cases hp
    simp only [pop] at hv
    split at hv
    · rename_i hs
      cases hv
      exact step_box hx hs hR (hf _ (Nat.le_refl _) (by simp))
    · cases hv
  | makeSlice t l c =>
    have hl := hr l (by simp [Op.operands])
    have hc := hr c (by simp [Op.operands])
    simp only at hp
    split at hp
    · rename_i agg size z nb ht
      split at hp
      · rename_i hz
        cases hp
        simp only [Bool.and_eq_true, beq_iff_eq, decide_eq_true_eq] at hz
        obtain ⟨⟨⟨z1, z2⟩, z3⟩, z4⟩ := hz
        simp only [pop] at hv
        split at hv
        · rename_i l' c' hl' hc'
          split at hv
          · rename_i hb
            cases hv
            rw [hl'] at hl
            rw [hc'] at hc
            show StepSim P (do pure (.value (← Instr.makeSlice t (a.eval l) (a.eval c)))) L0 lo m H w _ _
            generalize a.eval l = rl at hl ⊢
            generalize a.eval c = rc at hc ⊢
            cases hl
            cases hc
            exact step_make ht z1 z2 z3 z4 hb.1 hb.2.1 hb.2.2.1 hb.2.2.2 hR (hf _ (Nat.le_refl _) (by simp))
          · cases hv
        · cases hv
      · cases hp
    · cases hp
  | buildSlice t n parts =>
    simp only at hp
    split at hp
    · rename_i agg size z nb ht
      split at hp
      · rename_i hz
        cases hp
        simp only [Bool.and_eq_true, beq_iff_eq, decide_eq_true_eq] at hz
        obtain ⟨⟨⟨⟨z1, z2⟩, z3⟩, z4⟩, z5⟩ := hz
        simp only [pop] at hv
        split at hv
        · rename_i cs hcs
          split at hv
          · rename_i hsc
            cases hv
            have := step_lit (P := P) (w := w) (lo := lo) (a := a) ht z1 z2 z3 z4 z5 hcs hsc (fun p hpm => hr p.2 (by simp only [Op.operands]; simp; exact ⟨p.1, by simpa using hpm⟩)) hR (hf _ (Nat.le_refl _) (by simp))
            rw [Array.toArray_toList] at this
            exact this
          · cases hv
        · cases hv
      · cases hp
    · cases hp
  | call c =>
    obtain ⟨callee, args, ts⟩ := c
    cases callee with
    | builtin b =>
      have hra : ∀ x ∈ args, RV m (ev ρ x) (a.eval x) := fun x hx => hr x (by simpa [Op.operands, Call.operands] using hx)
      simp only at hp
      unfold prepBuiltin at hp
      split at hp
      · split at hp <;> first | (cases hp; done) | (cases hp; exact absurd rfl hpure)
      · split at hp <;> first | (cases hp; done) | (cases hp; exact absurd rfl hpure)
      · cases hp; exact absurd rfl hpure
      · cases hp; exact absurd rfl hpure
      · rename_i x y t u trest hargs hts _
        have ea : args = #[x, y] := Array.toList_inj.1 (by simpa using hargs)
        subst ea
        have hx := hra x (by simp)
        have hy := hra y (by simp)
        have hts2 : ∃ tr, ts = (t :: u :: tr).toArray := ⟨trest, Array.toList_inj.1 (by simpa using hts)⟩
        obtain ⟨tr, rfl⟩ := hts2
        show StepSim P (do pure (.value (← Builtin.append_ (t :: u :: tr).toArray type ((#[x, y] : Array Operand).map a.eval)))) L0 lo m H w v H'
        rw [map_two]
        have happ : ∀ r1 r2, Builtin.append_ (t :: u :: tr).toArray type #[r1, r2] = Builtin.append_ #[t, u] type #[r1, r2] := fun r1 r2 => by simp [Builtin.append_]
        rw [happ]
        split at hp
        · rename_i agg size zero bytes ku ht hu
          split at hp
          · rename_i hz
            cases hp
            simp only [Bool.and_eq_true, beq_iff_eq, decide_eq_true_eq] at hz
            obtain ⟨⟨⟨z1, z2⟩, z3⟩, z4⟩ := hz
            simp only [pop] at hv
            split at hv
            · rename_i n hn
              split at hv
              · rename_i hb
                cases hap : pappend lo zero.length bytes (ev ρ x) n.toNat (zcells n.toNat zero) H with
                | none => rw [hap] at hv; cases hv
                | some q =>
                  obtain ⟨u', H1⟩ := q
                  rw [hap] at hv
                  cases hv
                  rw [hn] at hy
                  generalize a.eval y = ry at hy ⊢
                  cases hy
                  exact step_appz ht hu hb hap hx z4 z1 z2 z3 hR hlo hf
              · cases hv
            · cases hv
          · cases hp
        · rename_i agg size zero bytes d _ ht hu
          split at hp
          · rename_i hd
            split at hp
            · rename_i hzs
              cases hp
              simp only [pop] at hv
              split at hv
              · rename_i k hk
                split at hv
                · rename_i new hnew
                  cases hap : pappend lo size bytes (ev ρ x) k new H with
                  | none => rw [hap] at hv; cases hv
                  | some q =>
                    obtain ⟨u', H1⟩ := q
                    rw [hap] at hv
                    cases hv
                    exact step_app ht hu hd hk hnew hap hx hy (by simpa using hzs) hR hlo hf
                · cases hv
              · cases hv
            · cases hp
          · cases hp
        · cases hp
      · rename_i x y t trest hargs hts _
        have ea : args = #[x, y] := Array.toList_inj.1 (by simpa using hargs)
        have et : ts = (t :: trest).toArray := Array.toList_inj.1 (by simpa using hts)
        subst ea; subst et
        have hx := hra x (by simp)
        have hy := hra y (by simp)
        show StepSim P (do pure (.value (← Builtin.copy_ (t :: trest).toArray type ((#[x, y] : Array Operand).map a.eval)))) L0 lo m H w v H'
        rw [map_two]
        split at hp
        · rename_i agg size zero bytes ht
          cases hp
          simp only [pop] at hv
          split at hv
          · rename_i n c k hx0 hk
            cases hv
            rw [hx0] at hx
            generalize a.eval x = rx at hx ⊢
            cases hx
            obtain ⟨e, hte, htie⟩ := elemInfo_spec ht
            obtain ⟨i, de, zz, hi, _, hzz, _, _, _, _⟩ := tinfo_spec htie
            refine StepSim.value (rv := .int .i64 0) (w' := w) ?_ (.int _ _) hR (Trans.refl lo m _ w)
            have hl := lenOf_rel hk hy
            have hf0 := firstCells0 (P := P) (w := w) i.size hk hy
            simp [Builtin.copy_, run_underlying hte, hl, run_sizeOf e i hi, goInt, hf0]
          · rename_i b o d c k hx0 hk
            split at hv
            · rename_i new hnew
              cases hw : H.write lo b o new with
              | none => rw [hw] at hv; cases hv
              | some H1 =>
                rw [hw] at hv
                cases hv
                rw [hx0] at hx
                exact step_copy ht hk hnew hw hx hy hR hlo
            · cases hv
          · cases hv
        · cases hp
      · rename_i x t trest hargs hts _
        have ea : args = #[x] := Array.toList_inj.1 (by simpa using hargs)
        have et : ts = (t :: trest).toArray := Array.toList_inj.1 (by simpa using hts)
        subst ea; subst et
        have hx := hra x (by simp)
        show StepSim P (do pure (.value (← Builtin.clear_ (t :: trest).toArray type ((#[x] : Array Operand).map a.eval)))) L0 lo m H w v H'
        rw [map_one]
        split at hp
        · rename_i agg size zero bytes ht
          split at hp
          · rename_i hz
            cases hp
            simp only [Bool.and_eq_true, beq_iff_eq, decide_eq_true_eq] at hz
            obtain ⟨⟨⟨z1, z2⟩, z3⟩, z4⟩ := hz
            obtain ⟨e, hte, htie⟩ := elemInfo_spec ht
            obtain ⟨i, de, zz, hi, _, hzz, rfl, rfl, rfl, rfl⟩ := tinfo_spec htie
            simp only [pop] at hv
            split at hv
            · rename_i n c hx0
              cases hv
              rw [hx0] at hx
              generalize a.eval x = rx at hx ⊢
              cases hx
              exact step_clear0 hte .snil hR
            · rename_i b o n c hx0
              rw [hx0] at hx
              split at hv
              · rename_i hn0
                cases hv
                subst hn0
                exact step_clear0 hte hx hR
              · rename_i hn0
                cases hw : H.write lo b o (zcells n (pcells zz)) with
                | none => rw [hw] at hv; cases hv
                | some H1 =>
                  rw [hw] at hv
                  cases hv
                  exact step_clear hte hi hzz hn0 hw hx z2 z4 hR hlo
            · cases hv
          · cases hp
        · cases hp
      · cases hp
    | value f =>
      cases f with
      | func g => cases hp; cases hv
      | tmp t =>
        cases hp
        simp only [pop] at hv
        split at hv <;> cases hv
      | const c => cases hp
      | global g => cases hp
    | invoke r s => cases hp
  | _ => cases hp

/-! ### calls -/
def CallOk (P : Program) (f : Nat) : Prop := ∃ fn, P.funcs[f]? = some fn ∧ (fn.name == "runtime.NumGoroutine") = false ∧ fn.body.isNone = false

theorem run_callFunc {f : Nat} {args : Array Value} (h : CallOk P f) : (callFunc f args).run P w = .ok (.enter f args) w := by
  obtain ⟨fn, h1, h2, h3⟩ := h
  unfold callFunc
  rw [Sem.run_bind, run_program, Result.andThen_ok, h1]
  simp [h2, h3]

theorem map_none {α β : Type} {o : Option α} {f : α → β} {x : β} (h : o.map f = some x) (hf : ∀ y, f y ≠ x) : False := by
  cases o with
  | none => cases h
  | some y => injection h with h; exact hf y h

theorem prep_call {op : Op} {g : Nat} {as : List Operand} (h : prepOp P op = some (.call g as)) : ∃ args ts, op = .call ⟨.value (.func g), args, ts⟩ ∧ as = args.toList := by
  unfold prepOp at h
  split at h
  case isFalse => cases h
  cases op with
  | call c =>
    obtain ⟨callee, args, ts⟩ := c
    cases callee with
    | builtin b =>
      exfalso
      simp only [prepBuiltin] at h
      repeat' (split at h)
      all_goals cases h
    | value f =>
      cases f with
      | func g' => cases h; exact ⟨args, ts, rfl, rfl⟩
      | _ => cases h
    | invoke r s => cases h
  | _ =>
    exfalso
    dsimp only at h
    try unfold prepBin at h
    repeat' (split at h)
    all_goals first
      | contradiction
      | (cases h; done)
      | exact map_none h (by intro y h; cases h)

theorem prep_callv {op : Op} {fv : Operand} {as : List Operand} (h : prepOp P op = some (.callv fv as)) : ∃ args ts, op = .call ⟨.value fv, args, ts⟩ ∧ as = args.toList := by
  unfold prepOp at h
  split at h
  case isFalse => cases h
  cases op with
  | call c =>
    obtain ⟨callee, args, ts⟩ := c
    cases callee with
    | builtin b =>
      exfalso
      simp only [prepBuiltin] at h
      repeat' (split at h)
      all_goals cases h
    | value f =>
      cases f with
      | tmp g' => cases h; exact ⟨args, ts, rfl, rfl⟩
      | _ => cases h
    | invoke r s => cases h
  | _ =>
    exfalso
    dsimp only at h
    try unfold prepBin at h
    repeat' (split at h)
    all_goals first
      | contradiction
      | (cases h; done)
      | exact map_none h (by intro y h; cases h)

theorem pop_call_key {po : POp} {ρ : Env} {lo f : Nat} {args : List Value} (hv : pop lo po ρ H = some (.call f args)) : (∃ g as, po = .call g as) ∨ (∃ g as, po = .callv g as) := by
  by_cases hpure : looksPure po = true
  · rw [pop_pure hpure] at hv
    cases hpp : ppure po ρ with
    | none => rw [hpp] at hv; cases hv
    | some u => rw [hpp] at hv; cases hv
  cases po <;> first | exact absurd rfl hpure | exact .inl ⟨_, _, rfl⟩ | exact .inr ⟨_, _, rfl⟩ | skip
  all_goals
    exfalso
    simp only [pop] at hv
    repeat' (split at hv)
    all_goals first
      | (cases hv; done)
      | (revert hv; generalize Heap.write _ _ _ _ _ = q; cases q <;> intro hv <;> cases hv)
      | (revert hv; generalize pload _ _ _ _ = q; cases q <;> intro hv <;> cases hv)
      | (revert hv; generalize psub _ _ _ _ _ _ = q; cases q <;> intro hv <;> cases hv)
      | (revert hv; generalize pappend _ _ _ _ _ _ _ = q; cases q <;> intro hv <;> cases hv)
      | (revert hv; generalize pbytes _ = q; cases q <;> intro hv <;> cases hv)

theorem sim_pcall {o : Oper} {po : POp} {ρ : Env} {a : Act} {lo f : Nat} {args : List Value} (hp : prepOp P o.op = some po) (hv : pop lo po ρ H = some (.call f args)) (hr : ∀ x ∈ o.op.operands, RV m (ev ρ x) (a.eval x)) :
    ∃ rargs, RL m args rargs ∧ (CallOk P f → ∀ w, (execOp a.eval o).run P w = .ok (.enter f rargs.toArray) w) := by
  have key := pop_call_key hv
  obtain ⟨dst, op, type, pos, after, guard⟩ := o
  simp only at hp hr ⊢
  rcases key with ⟨g, as, rfl⟩ | ⟨g, as, rfl⟩
  · obtain ⟨cargs, ts, rfl, rfl⟩ := prep_call hp
    cases hv
    refine ⟨cargs.toList.map a.eval, RL.map fun x hx => hr x (by simp [Op.operands, Call.operands]; right; simpa using hx), fun hc w => ?_⟩
    have e1 : (cargs.toList.map a.eval).toArray = cargs.map a.eval := Array.toList_inj.1 (by rw [Array.toList_map])
    rw [e1]
    have e2 : execOp a.eval ⟨dst, .call ⟨.value (.func f), cargs, ts⟩, type, pos, after, guard⟩ = callFunc f ((#[] ++ cargs.map a.eval) ++ #[]) := rfl
    rw [e2, run_callFunc hc]
    simp
  · obtain ⟨cargs, ts, rfl, rfl⟩ := prep_callv hp
    have hg := hr g (by simp [Op.operands, Call.operands])
    simp only [pop] at hv
    split at hv
    · rename_i f' first caps hfv
      cases hv
      rw [hfv] at hg
      generalize hrg : a.eval g = rg at hg
      cases hg with
      | func fn f1 g1 c1 d1 h1 h2 h3 h4 =>
        refine ⟨g1.toList ++ cargs.toList.map a.eval ++ d1.toList, ((RL.arr h1 h2).append (RL.map fun x hx => hr x (by simp [Op.operands, Call.operands]; right; simpa using hx))).append (RL.arr h3 h4), fun hc w => ?_⟩
        have e1 : (g1.toList ++ cargs.toList.map a.eval ++ d1.toList).toArray = (g1 ++ cargs.map a.eval) ++ d1 := by
          apply Array.ext'
          simp
        rw [e1]
        have e2 : (execOp a.eval ⟨dst, .call ⟨.value g, cargs, ts⟩, type, pos, after, guard⟩) = (do let d ← Deferred.ofValue (a.eval g) (cargs.map a.eval); invoke d.target d.args) := rfl
        rw [e2, hrg]
        show (callFunc f ((g1 ++ cargs.map a.eval) ++ d1)).run P w = _
        exact run_callFunc hc
    · cases hv

end
end Go.PM
