/- Which blocks an operation leaves alone, and what a look at a block needs. -/
import Derived.Test.YtkoiolkkceknhaaPmOrd
namespace Go.PM

theorem write_off {H H' : Heap} {lo b o : Nat} {new : List Value} (h : H.write lo b o new = some H') {b' : Nat} (hb : b' ≠ b) : H'[b']? = H[b']? := by
  obtain ⟨cs, e, p, h1, h2, h3, h4, rfl⟩ := write_spec h
  exact List.getElem?_set_ne (Ne.symm hb)

theorem pappend_off {H H' : Heap} {lo size bytes add : Nat} {x v : Value} {new : List Value} (h : pappend lo size bytes x add new H = some (v, H')) {b' : Nat} (hb : blkOf x ≠ some b') (hlt : b' < H.length) : H'[b']? = H[b']? := by
  unfold pappend at h
  split at h
  case isFalse => cases h
  split at h
  · split at h
    · split at h
      · cases h; rfl
      · split at h
        · cases h; exact List.getElem?_append_left hlt
        · cases h
    · cases h
  · rename_i b o n c
    have hne : b' ≠ b := fun e => hb (by rw [e]; rfl)
    split at h
    · split at h
      · split at h
        · split at h
          · cases h; rfl
          · cases hw : Heap.write H lo b (o + n * size) new with
            | none => rw [hw] at h; cases h
            | some H1 => rw [hw] at h; cases h; exact write_off hw hne
        · split at h
          · split at h
            · split at h
              · cases h
                rw [List.getElem?_append_left (by simpa using hlt)]
                exact List.getElem?_set_ne (Ne.symm hne)
              · cases h
            · cases h; exact List.getElem?_append_left hlt
          · cases h
      · cases h
    · cases h
  · cases h

/-- What an operation that writes leaves alone: every block but the one that it is told of. -/
theorem pop_off {E : Cfg} {lo : Nat} {p : POp} {ρ : Env} {H H' : Heap} {v : Value} {x : Operand} (h : pop lo p ρ H = some (.val v H')) (hw : clsOf E p = .write) (ht : touch p = some x) {b' : Nat} (hb : blkOf (ev ρ x) ≠ some b') (hlt : b' < H.length) : H'[b']? = H[b']? := by
  cases p <;> first | (cases ht; done) | (cases hw; done) | skip
  case sub size y l hh mx => cases mx <;> cases hw
  case store size q y =>
    cases ht
    simp only [pop] at h
    split at h
    · rename_i b o he
      rw [he] at hb
      have hne : b' ≠ b := fun e => hb (by rw [e]; rfl)
      split at h
      · cases hw : H.write lo b o (pcells (ev ρ y)) with
        | none => rw [hw] at h; cases h
        | some H1 => rw [hw] at h; cases h; exact write_off hw hne
      · cases h
    · cases h
  case app size bytes y z =>
    cases ht
    simp only [pop] at h
    split at h
    · rename_i n _
      split at h
      · rename_i new _
        cases ha : pappend lo size bytes (ev ρ x) n new H with
        | none => rw [ha] at h; cases h
        | some q =>
          obtain ⟨u, H1⟩ := q
          rw [ha] at h; cases h; exact pappend_off ha hb hlt
      · cases h
    · cases h
  case appz z bytes y n =>
    cases ht
    simp only [pop] at h
    split at h
    · rename_i k _
      split at h
      · cases ha : pappend lo z.length bytes (ev ρ x) k.toNat (zcells k.toNat z) H with
        | none => rw [ha] at h; cases h
        | some q =>
          obtain ⟨u, H1⟩ := q
          rw [ha] at h; cases h; exact pappend_off ha hb hlt
      · cases h
    · cases h
  case copy size y z =>
    cases ht
    simp only [pop] at h
    split at h
    · cases h; rfl
    · rename_i b o d _ s he _
      rw [he] at hb
      have hne : b' ≠ b := fun e => hb (by rw [e]; rfl)
      split at h
      · rename_i new _
        cases hw : H.write lo b o new with
        | none => rw [hw] at h; cases h
        | some H1 => rw [hw] at h; cases h; exact write_off hw hne
      · cases h
    · cases h
  case clear z y =>
    cases ht
    simp only [pop] at h
    split at h
    · cases h; rfl
    · rename_i b o n _ he
      rw [he] at hb
      have hne : b' ≠ b := fun e => hb (by rw [e]; rfl)
      split at h
      · cases h; rfl
      · cases hw : H.write lo b o (zcells n z) with
        | none => rw [hw] at h; cases h
        | some H1 => rw [hw] at h; cases h; exact write_off hw hne
    · cases h

theorem read_lt {H : Heap} {b o n : Nat} {cs : List Value} (h : H.read b o n = some cs) : b < H.length := by
  unfold Heap.read at h
  split at h
  · rename_i hb; exact (List.getElem?_eq_some_iff.1 hb).1
  · cases h
theorem read_congr {H H2 : Heap} {b o n : Nat} (h : H2[b]? = H[b]?) : H2.read b o n = H.read b o n := by
  unfold Heap.read
  rw [h]

theorem pload_look {agg : Bool} {size : Nat} {x v : Value} {H H2 : Heap} (h : pload agg size x H = some v) (hb : ∀ b, blkOf x = some b → b < H.length → H2[b]? = H[b]?) : pload agg size x H2 = some v := by
  unfold pload at h ⊢
  split at h
  · rename_i b o
    have hlt : b < H.length := by
      split at h
      · cases hr : H.read b o size with
        | none => rw [hr] at h; cases h
        | some cs => exact read_lt hr
      · cases hr : H.read b o 1 with
        | none => rw [hr] at h; cases h
        | some cs => exact read_lt hr
    have e := hb b rfl hlt
    simp only [read_congr e]
    exact h
  · cases h

/-- A look comes to the same wherever the block that it looks at is the same; the heap stays. -/
theorem pop_look {E : Cfg} {lo : Nat} {p : POp} {ρ : Env} {H H' H2 : Heap} {v : Value} (h : pop lo p ρ H = some (.val v H')) (hc : clsOf E p = .look) (hb : ∀ x, touch p = some x → ∀ b, blkOf (ev ρ x) = some b → b < H.length → H2[b]? = H[b]?) :
    H' = H ∧ pop lo p ρ H2 = some (.val v H2) := by
  cases p <;> first | (cases hc; done) | skip
  case call f args => simp only [clsOf] at hc; split at hc <;> cases hc
  case load agg size q =>
    simp only [pop] at h ⊢
    cases hl : pload agg size (ev ρ q) H with
    | none => rw [hl] at h; cases h
    | some u =>
      rw [hl] at h
      cases h
      refine ⟨rfl, ?_⟩
      rw [pload_look hl (hb q rfl)]
      rfl
  case b2s x =>
    simp only [pop] at h ⊢
    split at h
    · cases h; exact ⟨rfl, rfl⟩
    · rename_i b o n _ he
      split at h
      · rename_i cs hr
        cases hbs : pbytes cs with
        | none => rw [hbs] at h; cases h
        | some bs =>
          rw [hbs] at h
          cases h
          refine ⟨rfl, ?_⟩
          have e := hb x rfl b (by rw [he]; rfl) (read_lt hr)
          rw [read_congr e, hr]
          simp only [hbs]
          rfl
      · cases h
    · cases h
  case sub size x l hh mx =>
    cases mx with
    | some mx => cases hc
    | none =>
      simp only [pop] at h ⊢
      cases hs : psub size (ev ρ x) (l.map (ev ρ)) (hh.map (ev ρ)) ((none : Option Operand).map (ev ρ)) H with
      | none => rw [hs] at h; cases h
      | some q =>
        obtain ⟨u, H1⟩ := q
        rw [hs] at h
        cases h
        have hb' := hb x rfl
        generalize ev ρ x = xv at hs hb'
        have key : H1 = H ∧ psub size xv (l.map (ev ρ)) (hh.map (ev ρ)) ((none : Option Operand).map (ev ρ)) H2 = some (u, H2) := by
          unfold psub at hs ⊢
          simp only [Option.map_none, Option.isSome_none, Bool.false_eq_true, false_and, if_false] at hs ⊢
          split at hs
          · repeat' (split at hs)
            all_goals first | (cases hs; done) | skip
            cases hs
            simp_all
          · rename_i b o n c
            split at hs
            · rename_i cs e p hrow
              have e1 := hb' b rfl (List.getElem?_eq_some_iff.1 hrow).1
              rw [e1, hrow]
              simp only
              repeat' (split at hs)
              all_goals first | (cases hs; done) | skip
              cases hs
              simp_all
            · cases hs
          · cases hs
        rw [key.2]
        exact ⟨key.1, rfl⟩

section
variable {P : Program} {E : Cfg} {n : Nat} {ops : Array Oper} {pis : List PI} {ps : List POp} {M : List Nat} {call : Caller} {lo : Nat} {st : Nat → Env × Heap}

theorem Text.extAt (T : Text P E n ops pis ps M call lo st) {i : Nat} : ∀ {j : Nat}, i ≤ j → j ≤ ops.size → Ext lo (st i).2 (st j).2 := by
  intro j hij
  induction j with
  | zero => intro _; have : i = 0 := by omega
            subst this; exact Ext.refl _ _
  | succ j ih =>
    intro hj
    rcases Nat.lt_or_ge i (j + 1) with h | h
    · obtain ⟨o, p, pi, _, _, _, _, _, v, hv, _⟩ := T.at (i := j) (by omega)
      exact (ih (by omega) (by omega)).trans (ext_pval T.ext hv)
    · have : i = j + 1 := by omega
      subst this; exact Ext.refl _ _

/-- Between two places of the text a block stays as it is, when no operation between them writes it. -/
theorem Text.sameB (T : Text P E n ops pis ps M call lo st) {i : Nat} : ∀ {j : Nat}, i ≤ j → j ≤ ops.size → ∀ b, b < (st i).2.length →
    (∀ k, i ≤ k → k < j → ∀ p pi, ps[k]? = some p → pis[k]? = some pi → clsOf E p = .write → wantedP pi.g (st k).1 = some true → ∃ x, touch p = some x ∧ blkOf (ev (st k).1 x) ≠ some b) →
    (st j).2[b]? = (st i).2[b]? := by
  intro j hij
  induction j with
  | zero => intro _ b _ _; have : i = 0 := by omega
            subst this; rfl
  | succ j ih =>
    intro hj b hb hk
    rcases Nat.lt_or_ge i (j + 1) with h | h
    · have hlt : b < (st j).2.length := Nat.lt_of_lt_of_le hb (T.len (by omega) (by omega))
      have h1 : (st (j + 1)).2[b]? = (st j).2[b]? := by
        obtain ⟨o, p, pi, _, hp, hpi, hok, _, v, hv, _⟩ := T.at (i := j) (by omega)
        by_cases hw : clsOf E p = .write
        · rcases pval_cases hv with ⟨_, _, h⟩ | ⟨hwt, _, h | ⟨f, args, h1, h2⟩⟩
          · rw [h]
          · rw [hok.op] at h
            obtain ⟨x, hx, hne⟩ := hk j (by omega) (by omega) p pi hp hpi hw hwt
            exact pop_off h hw hx hne hlt
          · rw [hok.op] at h1
            obtain ⟨x, hx, hne⟩ := hk j (by omega) (by omega) p pi hp hpi hw hwt
            rcases pop_call_key h1 with ⟨g, as, rfl⟩ | ⟨g, as, rfl⟩ <;> cases hx
        · exact T.same1 (by omega) hp hw b hlt
      rw [h1]
      exact ih (by omega) (by omega) b hb fun k hk1 hk2 => hk k hk1 (by omega)
    · have : i = j + 1 := by omega
      subst this; rfl

theorem Text.same (T : Text P E n ops pis ps M call lo st) {i j : Nat} (hij : i ≤ j) (hj : j ≤ ops.size) (hk : ∀ k, i ≤ k → k < j → ∀ p, ps[k]? = some p → clsOf E p ≠ .write) : ∀ b, b < (st i).2.length → (st j).2[b]? = (st i).2[b]? :=
  fun b hb => T.sameB hij hj b hb fun k h1 h2 p _ hp _ hw _ => absurd hw (hk k h1 h2 p hp)

/-- A temporary stays as it is where nothing writes it. -/
theorem Text.envSame (T : Text P E n ops pis ps M call lo st) {i t : Nat} : ∀ {j : Nat}, i ≤ j → j ≤ ops.size → (∀ k o, i ≤ k → k < j → ops[k]? = some o → o.dst ≠ some t) → (st j).1 t = (st i).1 t := by
  intro j hij
  induction j with
  | zero => intro _ _; have : i = 0 := by omega
            subst this; rfl
  | succ j ih =>
    intro hj hk
    rcases Nat.lt_or_ge i (j + 1) with h | h
    · obtain ⟨o, p, pi, ho, hp, hpi, hok, _, v, hv, he⟩ := T.at (i := j) (by omega)
      rw [he]
      have hne := hk j o (by omega) (by omega) ho
      have h1 : put (st j).1 o.dst v t = (st j).1 t := by
        cases hd : o.dst with
        | none => rfl
        | some d =>
          rw [hd] at hne
          show (if t = d then v else _) = _
          rw [if_neg (fun e => hne (by rw [e]))]
      rw [h1]
      exact ih (by omega) (by omega) fun k o hk1 hk2 => hk k o hk1 (by omega)
    · have : i = j + 1 := by omega
      subst this; rfl

end
end Go.PM
