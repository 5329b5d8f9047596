/- A statement of open order: whatever order is drawn, the state behind it is the text's. -/
import Derived.Test.YtkoiolkkceknhaaPmAnyA
namespace Go.PM

theorem ahead_lt {M : List Nat} {i j : Nat} (h : i < j) : ahead M i j = (M.getD j 0).testBit i := by
  unfold ahead
  have e1 : Nat.max i j = j := Nat.max_eq_right (by omega)
  have e2 : Nat.min i j = i := Nat.min_eq_left (by omega)
  rw [e1, e2]
theorem ahead_gt {M : List Nat} {i j : Nat} (h : j < i) : ahead M i j = (M.getD i 0).testBit j := by
  unfold ahead
  have e1 : Nat.max i j = i := Nat.max_eq_left (by omega)
  have e2 : Nat.min i j = j := Nat.min_eq_right (by omega)
  rw [e1, e2]

theorem put_getD {a : Act} {d t : Nat} {v : Value} (hd : d < a.tmps.size) : (a.put (some d) v).tmps.getD t undef = if t = d then v else a.tmps.getD t undef := by
  show (a.tmps.setIfInBounds d v).getD t undef = _
  rcases Nat.lt_or_ge t a.tmps.size with h | h
  · by_cases e : t = d
    · subst e; simp [h]
    · simp [h, e, Ne.symm e]
  · have : t ≠ d := by omega
    simp [h, this]
theorem put_size (a : Act) (d : Option Nat) (v : Value) : (a.put d v).tmps.size = a.tmps.size := by
  cases d <;> simp [Act.put]
theorem put_defs (a : Act) (d : Option Nat) (v : Value) : (a.put d v).defers = a.defers := by
  cases d <;> rfl

section
variable {P : Program} {E : Cfg} {n : Nat} {ops : Array Oper} {pis : List PI} {ps : List POp} {M : List Nat} {call : Caller} {lo L0 : Nat} {st : Nat → Env × Heap}

/-- Where a drawn run stands: S: what has come up; c: the first operation that writes and has not come up. -/
structure AnyInv (E : Cfg) (n : Nat) (ops : Array Oper) (ps : List POp) (lo L0 : Nat) (st : Nat → Env × Heap) (m0 : PMap) (w0 : World) (ds : List Deferred) (S : Nat → Prop) (m : PMap) (c : Nat) (a : Act) (w : World) : Prop where
  tsize : a.tmps.size = n
  defs : a.defers = ds
  back : ∀ i o, ops.toList[i]? = some o → S i → ∀ e ∈ o.after.toList, Region.binds .any e = true → S e.on
  tm : ∀ t j, j ≤ ops.size → (∀ i o, ops.toList[i]? = some o → o.dst = some t → (S i ↔ i < j)) → RV m ((st j).1 t) (a.tmps.getD t undef)
  cle : c ≤ ops.size
  before : ∀ i p, i < c → ps[i]? = some p → clsOf E p = .write → S i
  atc : c < ops.size → ¬ S c ∧ ∃ p, ps[c]? = some p ∧ clsOf E p = .write
  rel : Rel m L0 (st c).2 w
  tr : Trans lo m0 (st 0).2 w0 m (st c).2 w
  dom : ∀ b l, m b = some l → m0 b ≠ none ∨ ∃ i, S i ∧ i < ops.size ∧ (st i).2.length ≤ b ∧ b < (st (i + 1)).2.length

/-- The facts on the order of a text that has been run, by its masks. -/
theorem Text.anc (T : Text P E n ops pis ps M call lo st) {S : Nat → Prop} (hS : ∀ i o, ops.toList[i]? = some o → S i → ∀ e ∈ o.after.toList, Region.binds .any e = true → S e.on) {k : Nat} {o : Oper} (ho : ops.toList[k]? = some o)
    (hk : ∀ e ∈ o.after.toList, Region.binds .any e = true → S e.on) {i : Nat} (hi : (M.getD k 0).testBit i = true) : S i :=
  closed_anc (fun i o hio => by
      obtain ⟨p, pi, _, _, _, hd, _⟩ := T.ok.each i o hio
      exact (hd rfl).back) (fun i o hio => by
      obtain ⟨p, pi, _, _, _, hd, _⟩ := T.ok.each i o hio
      exact (hd rfl).mask) hS k o ho hk i hi

theorem Text.nowrite (T : Text P E n ops pis ps M call lo st) {i : Nat} {p : POp} (hi : i < ops.size) (hp : ps[i]? = some p) (h : clsOf E p = .pure ∨ clsOf E p = .look) : (st (i + 1)).2 = (st i).2 := by
  obtain ⟨o, p', pi, _, hp', _, hok, hdr, v, hv, _⟩ := T.at hi
  rw [hp] at hp'
  cases hp'
  rcases pval_cases hv with ⟨_, _, h'⟩ | ⟨_, _, h' | ⟨f, args, h1, h2⟩⟩
  · exact h'
  · rw [hok.op] at h'
    rcases h with h | h
    · have : looksPure p = true := by
        cases p <;> first | rfl | (cases h; done) | skip
        case sub s x l hh mx => cases mx <;> cases h
        case call f as => simp only [clsOf] at h; split at h <;> cases h
      rw [pop_pure this] at h'
      exact (pure_out h').2
    · exact (pop_look h' h (fun _ _ _ _ _ => rfl)).1
  · exfalso
    rw [hok.op] at h1
    rcases pop_call_key h1 with ⟨g, as, rfl⟩ | ⟨g, as, rfl⟩
    · simp only [clsOf] at h
      split at h <;> rcases h with h | h <;> cases h
    · rcases h with h | h <;> cases h

theorem touch_mem {op : Op} {p : POp} {x : Operand} (h : prepOp P op = some p) (ht : touch p = some x) : x ∈ op.operands := by
  unfold prepOp at h
  split at h
  case isFalse => cases h
  cases op with
  | load t q =>
    dsimp only at h
    cases hi : tinfo P t with
    | none => rw [hi] at h; cases h
    | some u => rw [hi] at h; cases h; cases ht; simp [Op.operands]
  | store t q v =>
    dsimp only at h
    cases hi : P.info? t with
    | none => rw [hi] at h; cases h
    | some u => rw [hi] at h; cases h; cases ht; simp [Op.operands]
  | slice t y l hh mx =>
    dsimp only at h
    split at h
    · split at h
      · cases h; cases ht
      · cases h
    · rename_i e _
      cases hi : tinfo P e with
      | none => rw [hi] at h; cases h
      | some u => rw [hi] at h; cases h; cases ht; simp [Op.operands]
    · cases h
  | convert s d y =>
    dsimp only at h
    repeat' (split at h)
    all_goals first
      | (cases h; done)
      | (cases h; cases ht; done)
      | (cases h; cases ht; simp [Op.operands])
  | call c =>
    obtain ⟨callee, args, ts⟩ := c
    cases callee with
    | builtin b =>
      simp only [prepBuiltin] at h
      repeat' (split at h)
      all_goals first
        | (cases h; done)
        | (cases h; cases ht; done)
        | skip
      all_goals
        cases h
        cases ht
        have hm : x ∈ args.toList := by simp_all
        simpa [Op.operands, Call.operands] using hm
    | value f =>
      cases f with
      | tmp g' => cases h; cases ht
      | func g' => cases h; cases ht
      | _ => cases h
    | invoke r s => cases h
  | _ =>
    exfalso
    dsimp only at h
    try unfold prepBin at h
    repeat' (split at h)
    all_goals first
      | contradiction
      | (cases h; done)
      | (cases h; cases ht; done)
      | exact map_none h (by intro y h; cases h; cases ht)

end
end Go.PM
