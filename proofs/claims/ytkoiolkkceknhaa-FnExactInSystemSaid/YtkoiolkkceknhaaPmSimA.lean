/- The pure machine's operations that look at values alone: the model's operation comes to a related value, in every world. -/
import Derived.Test.YtkoiolkkceknhaaPmRel
import Derived.Laws.StructEq
import Derived.Laws.Cover3
namespace Go.PM

section
variable {P : Program} {m : PMap}

theorem sim_bin {op : BinOp} {t : TypeId} {x y : Operand} {v vx vy rx ry : Value} (hv : pbin op vx vy = some v) (hx : RV m vx rx) (hy : RV m vy ry) : ∃ rv, RV m v rv ∧ ∀ w, (do eqGuard op t x y rx ry; binOp op t rx ry : Sem Value).run P w = .ok rv w := by
  unfold pbin at hv
  split at hv
  · cases hx; cases hy
    split at hv
    · cases hv
    · rename_i hb
      cases hv
      exact ⟨_, .int _ _, fun w => by
        show (if _ then _ else _ : Sem Value).run P w = _
        rw [if_neg hb]; rfl⟩
  · cases hx; cases hy
    split at hv
    · cases hv
    · rename_i hb
      cases hv
      exact ⟨_, .int _ _, fun w => by
        show (if _ then _ else _ : Sem Value).run P w = _
        rw [if_neg hb]; rfl⟩
  · cases hx; cases hy
    rename_i k a k' b _ _
    split at hv
    · rename_i hk
      subst hk
      have e : ∀ (z : Sem Value), (if k ≠ k then (stuck "BinOp: operands of different kinds" : Sem Value) else z) = z := fun z => if_neg (by simp)
      split at hv <;> first
        | (cases hv; done)
        | (cases hv; exact ⟨_, .int _ _, fun w => by
            show (if k ≠ k then _ else _ : Sem Value).run P w = _
            rw [e]; rfl⟩)
        | (cases hv; exact ⟨_, .bool _, fun w => by
            show (if k ≠ k then _ else _ : Sem Value).run P w = _
            rw [e]; rfl⟩)
        | (split at hv
           · cases hv
           · rename_i hb
             cases hv
             exact ⟨_, .int _ _, fun w => by
              show (if k ≠ k then _ else _ : Sem Value).run P w = _
              rw [e]
              show (if b = 0 then _ else _ : Sem Value).run P w = _
              rw [if_neg hb]; rfl⟩)
    · cases hv
  · cases hx; cases hy
    rename_i a b _ _
    split at hv <;> first
      | (cases hv; done)
      | (cases hv; exact ⟨_, .bool _, fun w => rfl⟩)
      | (split at hv
         · cases hv
         · rename_i hb
           cases hv
           exact ⟨_, .str _, fun w => by
            show (if _ then _ else _ : Sem Value).run P w = _
            rw [if_neg hb]; rfl⟩)
  · cases hv

theorem sim_eqb {neg : Bool} {t : TypeId} {x y : Operand} {a b : Bool} (h : P.underlying t = some .bool) (w : World) :
    (do eqGuard (if neg then .neq else .eql) t x y (.bool a) (.bool b); binOp (if neg then .neq else .eql) t (.bool a) (.bool b) : Sem Value).run P w = .ok (.bool ((a == b) != neg)) w := by
  cases neg
  · show ((Op.equal t (.bool a) (.bool b)) >>= fun r => pure (.bool r) : Sem Value).run P w = _
    rw [Sem.run_bind, run_equal_bool w t a b h]
    cases a <;> cases b <;> rfl
  · show ((Op.equal t (.bool a) (.bool b)) >>= fun r => pure (.bool !r) : Sem Value).run P w = _
    rw [Sem.run_bind, run_equal_bool w t a b h]
    cases a <;> cases b <;> rfl

theorem sim_isnil {neg : Bool} {t e : TypeId} {x y : Operand} {a : Option Addr} {n c : Nat} (h : P.underlying t = some (.slice e)) (w : World) :
    (do eqGuard (if neg then .neq else .eql) t x y (.slice a n c) (.slice none 0 0); binOp (if neg then .neq else .eql) t (.slice a n c) (.slice none 0 0) : Sem Value).run P w = .ok (.bool (a.isNone != neg)) w := by
  cases neg
  · show ((Op.equal t (.slice a n c) (.slice none 0 0)) >>= fun r => pure (.bool r) : Sem Value).run P w = _
    rw [Sem.run_bind, run_equal_slice_nil w t e a n c h]
    cases a <;> rfl
  · show ((Op.equal t (.slice a n c) (.slice none 0 0)) >>= fun r => pure (.bool !r) : Sem Value).run P w = _
    rw [Sem.run_bind, run_equal_slice_nil w t e a n c h]
    cases a <;> rfl

theorem run_isAgg (t : TypeId) (d : TypeDesc) (h : P.underlying t = some d) (w : World) : (isAgg t).run P w = .ok (isAggD d) w := by
  unfold isAgg
  rw [Sem.run_bind, run_underlying h, Result.andThen_ok]
  cases d <;> rfl
theorem run_sizeOf (t : TypeId) (i : TypeInfo) (h : P.info? t = some i) (w : World) : (sizeOf t).run P w = .ok i.size w := by
  simp [sizeOf, typeInfo, h]

theorem run_part_one (t : TypeId) (d : TypeDesc) (h : P.underlying t = some d) (hd : isAggD d = false) (zs : Array Value) (i : Nat) (hz : i < zs.size) (w : World) :
    (part t zs i).run P w = .ok zs[i] w := by
  unfold part
  rw [Sem.run_bind, run_isAgg t d h w, Result.andThen_ok, hd]
  simp [hz]
theorem run_part_agg (t : TypeId) (d : TypeDesc) (n : TypeInfo) (h : P.underlying t = some d) (hn : P.info? t = some n) (hd : isAggD d = true) (zs : Array Value) (i : Nat) (w : World) :
    (part t zs i).run P w = .ok (.agg (zs.extract i (i + n.size))) w := by
  unfold part
  rw [Sem.run_bind, run_isAgg t d h w, Result.andThen_ok, hd]
  simp [run_sizeOf t n hn]

theorem eqCell_int {a b : Value} {c : Bool} (h : eqCell .int a b = some c) : ∃ k n n', a = .int k n ∧ b = .int k n' ∧ c = (n == n') := by
  cases a <;> cases b <;> simp [eqCell] at h
  obtain ⟨rfl, rfl⟩ := h
  exact ⟨_, _, _, rfl, rfl, rfl⟩
theorem eqCell_bool {a b : Value} {c : Bool} (h : eqCell .bool a b = some c) : ∃ n n', a = .bool n ∧ b = .bool n' ∧ c = (n == n') := by
  cases a <;> cases b <;> simp [eqCell] at h
  subst h
  exact ⟨_, _, rfl, rfl, rfl⟩
theorem eqCell_str {a b : Value} {c : Bool} (h : eqCell .str a b = some c) : ∃ n n', a = .string n ∧ b = .string n' ∧ c = (n == n') := by
  cases a <;> cases b <;> simp [eqCell] at h
  subst h
  exact ⟨_, _, rfl, rfl, rfl⟩

/-- The cells of a plain struct are compared one by one. -/
theorem sim_eqFields (d : Nat) (xs ys : Array Value) (w : World) : ∀ (fs : List Field) (ks : List CK) (i : Nat) (r : Bool),
    plainFields P i fs = some ks → eqCells ks (xs.toList.drop i) (ys.toList.drop i) = some r → (Op.eqFields (d + 1) xs ys fs).run P w = .ok r w
  | [], ks, i, r, hp, he => by
    cases hp
    unfold eqCells at he
    split at he
    · cases he; rfl
    · rename_i h _ _; cases h
    · cases he
  | f :: fs, ks, i, r, hp, he => by
    unfold plainFields at hp
    split at hp
    · rename_i hno
      simp only [Bool.and_eq_true, bne_iff_ne, ne_eq, beq_iff_eq] at hno
      obtain ⟨hname, hoff⟩ := hno
      have key : ∀ (k : CK) (ks' : List CK) (dd : TypeDesc), P.underlying f.type = some dd → isAggD dd = false → plainFields P (i + 1) fs = some ks' → ks = k :: ks' →
          (∀ a b c, eqCell k a b = some c → (Op.equalIn (d + 1) f.type a b).run P w = .ok c w) → (Op.eqFields (d + 1) xs ys (f :: fs)).run P w = .ok r w := by
        intro k ks' dd hu hdd hrest hks hq
        subst hks
        have hlx : i < xs.size := by
          rcases Nat.lt_or_ge i xs.size with h | h
          · exact h
          · rw [List.drop_eq_nil_of_le (by simpa using h)] at he; cases he
        have hly : i < ys.size := by
          rcases Nat.lt_or_ge i ys.size with h | h
          · exact h
          · rw [List.drop_eq_nil_of_le (as := ys.toList) (by simpa using h)] at he
            rw [List.drop_eq_getElem_cons (by simpa using hlx)] at he
            cases he
        have e1 : xs.toList.drop i = xs[i] :: xs.toList.drop (i + 1) := by rw [List.drop_eq_getElem_cons (by simpa using hlx)]; rfl
        have e2 : ys.toList.drop i = ys[i] :: ys.toList.drop (i + 1) := by rw [List.drop_eq_getElem_cons (by simpa using hly)]; rfl
        rw [e1, e2, eqCells] at he
        simp only [Op.eqFields, hname, ne_eq, not_false_eq_true, if_true, Sem.run_bind, hoff, run_part_one f.type dd hu hdd xs i hlx, run_part_one f.type dd hu hdd ys i hly, Result.andThen_ok]
        cases hc : eqCell k xs[i] ys[i] with
        | none => rw [hc] at he; cases he
        | some b =>
          rw [hq _ _ b hc]
          cases b
          · rw [hc] at he
            cases he
            rfl
          · rw [hc] at he
            simp only [Result.andThen_ok, Bool.not_true, Bool.false_eq_true, if_false]
            exact sim_eqFields d xs ys w fs ks' (i + 1) r hrest he
      split at hp
      · rename_i ks' _ hu hrest
        cases hp
        refine key .int ks' _ hu rfl hrest rfl fun a b c h => ?_
        obtain ⟨k, n, n', rfl, rfl, rfl⟩ := eqCell_int h
        exact run_equalIn_int w d f.type _ _ _ _ hu
      · rename_i ks' _ hu hrest
        cases hp
        refine key .bool ks' _ hu rfl hrest rfl fun a b c h => ?_
        obtain ⟨n, n', rfl, rfl, rfl⟩ := eqCell_bool h
        exact run_equalIn_bool w d f.type _ _ hu
      · rename_i ks' _ hu hrest
        cases hp
        refine key .str ks' _ hu rfl hrest rfl fun a b c h => ?_
        obtain ⟨n, n', rfl, rfl, rfl⟩ := eqCell_str h
        simp [Op.equalIn, run_underlying hu]
      · cases hp
    · cases hp

end
end Go.PM
