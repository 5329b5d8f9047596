/- Rules by which a function of the pure machine is walked through. -/
import Derived.Test.YtkoiolkkceknhaaPmCfg
namespace Go.PM

noncomputable abbrev pmCall : Caller := call cfg tab
/-- A piece of code comes to an end, and then this holds. -/
def W (lo : Nat) (c : PCode) (Q : Ex → Env → Heap → Prop) (ρ : Env) (H : Heap) : Prop := ∃ x ρ' H', code cfg tab lo c ρ H = some (x, ρ', H') ∧ Q x ρ' H'
def WS (lo : Nat) (is : List PI) (K : Env → Heap → Prop) (ρ : Env) (H : Heap) : Prop := ∃ ρ' H', psteps pmCall lo is ρ H = some (ρ', H') ∧ K ρ' H'

def seqQ (lo : Nat) (b : PCode) (Q : Ex → Env → Heap → Prop) : Ex → Env → Heap → Prop
  | .normal, ρ, H => W lo b Q ρ H
  | x, ρ, H => Q x ρ H
def blkQ (id : Nat) (Q : Ex → Env → Heap → Prop) : Ex → Env → Heap → Prop
  | .exit id', ρ, H => if id' = id then Q .normal ρ H else Q (.exit id') ρ H
  | x, ρ, H => Q x ρ H
def retQ (res : List PRes) (R : Value → Heap → Prop) : Ex → Env → Heap → Prop
  | .exit _, _, _ => False
  | _, ρ, H => ∃ v, presult res ρ H = some v ∧ R v H
def loopQ (J : Env → Heap → Prop) (Q : Ex → Env → Heap → Prop) : Ex → Env → Heap → Prop
  | .normal, ρ, H => J ρ H
  | x, ρ, H => Q x ρ H

section
variable {lo : Nat} {Q : Ex → Env → Heap → Prop} {K : Env → Heap → Prop} {ρ : Env} {H : Heap} {b : PCode} {id : Nat} {R : Value → Heap → Prop} {res : List PRes} {J : Env → Heap → Prop}
theorem seqQ_normal : seqQ lo b Q .normal ρ H = W lo b Q ρ H := rfl
theorem seqQ_exit {i : Nat} : seqQ lo b Q (.exit i) ρ H = Q (.exit i) ρ H := rfl
theorem seqQ_ret : seqQ lo b Q .ret ρ H = Q .ret ρ H := rfl
theorem blkQ_normal : blkQ id Q .normal ρ H = Q .normal ρ H := rfl
theorem blkQ_exit {i : Nat} : blkQ id Q (.exit i) ρ H = if i = id then Q .normal ρ H else Q (.exit i) ρ H := rfl
theorem blkQ_ret : blkQ id Q .ret ρ H = Q .ret ρ H := rfl
theorem retQ_normal : retQ res R .normal ρ H = ∃ v, presult res ρ H = some v ∧ R v H := rfl
theorem retQ_ret : retQ res R .ret ρ H = ∃ v, presult res ρ H = some v ∧ R v H := rfl
theorem loopQ_normal : loopQ J Q .normal ρ H = J ρ H := rfl
theorem loopQ_exit {i : Nat} : loopQ J Q (.exit i) ρ H = Q (.exit i) ρ H := rfl
theorem loopQ_ret : loopQ J Q .ret ρ H = Q .ret ρ H := rfl

theorem W_skip : W lo .skip Q ρ H = Q .normal ρ H := by
  unfold W
  rw [code_skip]
  exact propext ⟨fun ⟨_, _, _, h, hq⟩ => (by cases h; exact hq), fun h => ⟨_, _, _, rfl, h⟩⟩
theorem W_exit {i : Nat} : W lo (.exit i) Q ρ H = Q (.exit i) ρ H := by
  unfold W
  rw [code_exit]
  exact propext ⟨fun ⟨_, _, _, h, hq⟩ => (by cases h; exact hq), fun h => ⟨_, _, _, rfl, h⟩⟩
theorem W_ret : W lo .ret Q ρ H = Q .ret ρ H := by
  unfold W
  rw [code_ret]
  exact propext ⟨fun ⟨_, _, _, h, hq⟩ => (by cases h; exact hq), fun h => ⟨_, _, _, rfl, h⟩⟩
theorem W_reg {ops : List PI} : W lo (.reg ops) Q ρ H = WS lo ops (Q .normal) ρ H := by
  unfold W WS
  rw [code_reg]
  apply propext
  constructor
  · rintro ⟨x, ρ', H', h, hq⟩
    cases hs : psteps (call cfg tab) lo ops ρ H with
    | none => rw [hs] at h; cases h
    | some q =>
      rw [hs] at h
      cases h
      exact ⟨_, _, rfl, hq⟩
  · rintro ⟨ρ', H', h, hq⟩
    exact ⟨_, _, _, by rw [h]; rfl, hq⟩
theorem W_seq {a : PCode} : W lo (.seq a b) Q ρ H = W lo a (seqQ lo b Q) ρ H := by
  unfold W
  rw [code_seq]
  apply propext
  constructor
  · rintro ⟨x, ρ', H', h, hq⟩
    split at h
    · rename_i ρ1 H1 h1
      exact ⟨_, _, _, h1, x, ρ', H', h, hq⟩
    · rename_i hne
      refine ⟨x, ρ', H', h, ?_⟩
      cases x with
      | normal => exact absurd h (hne _ _)
      | exit i => exact hq
      | ret => exact hq
  · rintro ⟨x, ρ', H', h, hq⟩
    rw [h]
    cases x with
    | normal => exact hq
    | exit i => exact ⟨_, _, _, rfl, hq⟩
    | ret => exact ⟨_, _, _, rfl, hq⟩
theorem W_block {a : PCode} : W lo (.block id a) Q ρ H = W lo a (blkQ id Q) ρ H := by
  unfold W
  rw [code_block]
  apply propext
  constructor
  · rintro ⟨x, ρ', H', h, hq⟩
    split at h
    · rename_i id' ρ1 H1 h1
      refine ⟨_, _, _, h1, ?_⟩
      rw [blkQ_exit]
      split at h
      · rename_i he; cases h; rw [if_pos he]; exact hq
      · rename_i he; cases h; rw [if_neg he]; exact hq
    · rename_i hne
      refine ⟨x, ρ', H', h, ?_⟩
      cases x with
      | normal => exact hq
      | exit i => exact absurd h (hne _ _ _)
      | ret => exact hq
  · rintro ⟨x, ρ', H', h, hq⟩
    rw [h]
    cases x with
    | normal => exact ⟨_, _, _, rfl, hq⟩
    | exit i =>
      rw [blkQ_exit] at hq
      show ∃ x ρ'' H'', (if i = id then some (Ex.normal, ρ', H') else some (Ex.exit i, ρ', H')) = some (x, ρ'', H'') ∧ Q x ρ'' H''
      split at hq
      · rename_i he; rw [if_pos he]; exact ⟨_, _, _, rfl, hq⟩
      · rename_i he; rw [if_neg he]; exact ⟨_, _, _, rfl, hq⟩
    | ret => exact ⟨_, _, _, rfl, hq⟩
theorem W_cond {x : Operand} {a : PCode} : W lo (.cond x a b) Q ρ H = ∃ t, ev ρ x = .bool t ∧ ((t = true → W lo a Q ρ H) ∧ (t = false → W lo b Q ρ H)) := by
  unfold W
  rw [code_cond]
  apply propext
  constructor
  · rintro ⟨y, ρ', H', h, hq⟩
    split at h
    · rename_i t ht
      cases t with
      | true => exact ⟨true, ht, fun _ => ⟨y, ρ', H', h, hq⟩, fun h => by cases h⟩
      | false => exact ⟨false, ht, fun h => (by cases h), fun _ => ⟨y, ρ', H', h, hq⟩⟩
    · cases h
  · rintro ⟨t, ht, h1, h2⟩
    rw [ht]
    cases t with
    | true => exact h1 rfl
    | false => exact h2 rfl

theorem W.mono {Q' : Ex → Env → Heap → Prop} {c : PCode} (h : W lo c Q ρ H) (hq : ∀ x ρ H, Q x ρ H → Q' x ρ H) : W lo c Q' ρ H := by
  obtain ⟨x, ρ', H', h1, h2⟩ := h
  exact ⟨x, ρ', H', h1, hq _ _ _ h2⟩

/-- A loop: what holds ahead of each round, told by a state; a number that gets less. -/
theorem W_loop {α : Type} {c : PCode} (I : α → Env → Heap → Prop) (μ : α → Nat) (s : α) (h0 : I s ρ H)
    (round : ∀ s ρ H, I s ρ H → W lo c (loopQ (fun ρ' H' => ∃ s', μ s' < μ s ∧ I s' ρ' H') Q) ρ H) : W lo (.loop c) Q ρ H := by
  have key : ∀ n s ρ H, μ s < n → I s ρ H → W lo (.loop c) Q ρ H := by
    intro n
    induction n with
    | zero => intro s ρ H h; omega
    | succ n ih =>
      intro s ρ H hn hI
      obtain ⟨x, ρ', H', h1, h2⟩ := round s ρ H hI
      unfold W
      rw [code_loop, h1]
      cases x with
      | normal =>
        obtain ⟨s', h3, h4⟩ := h2
        exact ih s' ρ' H' (by omega) h4
      | exit i => exact ⟨_, _, _, rfl, h2⟩
      | ret => exact ⟨_, _, _, rfl, h2⟩
  exact key _ s ρ H (Nat.lt_succ_self _) h0

/-! ### operations -/
/-- What an operation comes to. -/
noncomputable def oval (lo : Nat) (q : Bool) (op : POp) (ρ : Env) (H : Heap) : Option (Value × Heap) :=
  match pop lo op ρ H with
  | some (.val v H') => some (v, H')
  | some (.call f args) => pmCall f args (if q then H.length else lo) H
  | none => none
theorem WS_nil : WS lo [] K ρ H = K ρ H := by
  unfold WS
  apply propext
  constructor
  · rintro ⟨ρ', H', h, hk⟩; cases h; exact hk
  · intro h; exact ⟨ρ, H, rfl, h⟩
theorem WS_of {i : PI} {is : List PI} : WS lo (i :: is) K ρ H = ∃ v H', pval pmCall lo i ρ H = some (v, H') ∧ WS lo is K (put ρ i.dst v) H' := by
  unfold WS
  apply propext
  constructor
  · rintro ⟨ρ', H', h, hk⟩
    rw [psteps] at h
    split at h
    · rename_i ρ1 H1 h1
      obtain ⟨v, hv, rfl⟩ := pstep_spec h1
      exact ⟨v, H1, hv, ρ', H', h, hk⟩
    · cases h
  · rintro ⟨v, H1, hv, ρ', H', h, hk⟩
    refine ⟨ρ', H', ?_, hk⟩
    rw [psteps]
    unfold pstep
    rw [hv]
    exact h
/-- An operation's outcome, and the operations behind it. -/
def bindS (lo : Nat) (r : Option (Value × Heap)) (d : Option Nat) (is : List PI) (K : Env → Heap → Prop) (ρ : Env) : Prop := ∃ v H', r = some (v, H') ∧ WS lo is K (put ρ d v) H'
theorem bindS_some {v : Value} {H' : Heap} {d : Option Nat} {is : List PI} : bindS lo (some (v, H')) d is K ρ = WS lo is K (put ρ d v) H' :=
  propext ⟨fun ⟨_, _, h, hp⟩ => (by cases h; exact hp), fun h => ⟨_, _, rfl, h⟩⟩
theorem bindS_of {r : Option (Value × Heap)} {d : Option Nat} {is : List PI} {v : Value} {H' : Heap} (h : r = some (v, H')) (hk : WS lo is K (put ρ d v) H') : bindS lo r d is K ρ := ⟨v, H', h, hk⟩
theorem WS_op {d : Option Nat} {op : POp} {q : Bool} {is : List PI} : WS lo (⟨d, op, none, q, []⟩ :: is) K ρ H = bindS lo (oval lo q op ρ H) d is K ρ := WS_of
theorem WS_cf {d : Option Nat} {op : POp} {q : Bool} {is : List PI} {cf : List (Operand × Operand)} (h : cf.all (keepsOff ρ) = true) : WS lo (⟨d, op, none, q, cf⟩ :: is) K ρ H = bindS lo (oval lo q op ρ H) d is K ρ := by
  rw [WS_of]
  unfold pval
  simp only [wantedP, h, if_true]
  rfl
theorem WS_guard_yes {d : Option Nat} {op : POp} {t : Nat} {want q : Bool} {is : List PI} (h : ρ t = .bool want) : WS lo (⟨d, op, some (t, want), q, []⟩ :: is) K ρ H = bindS lo (oval lo q op ρ H) d is K ρ := by
  rw [WS_of]
  unfold pval wantedP
  simp only [h, beq_self_eq_true]
  rfl
theorem WS_guard_no {d : Option Nat} {op : POp} {t : Nat} {want q : Bool} {is : List PI} (h : ρ t = .bool (!want)) : WS lo (⟨d, op, some (t, want), q, []⟩ :: is) K ρ H = WS lo is K (put ρ d undef) H := by
  rw [WS_of]
  unfold pval wantedP
  have : ((!want) == want) = false := by cases want <;> rfl
  simp only [h, this]
  exact propext ⟨fun ⟨_, _, h, hk⟩ => (by cases h; exact hk), fun h => ⟨_, _, rfl, h⟩⟩
theorem WS_guard_un {d : Option Nat} {op : POp} {t : Nat} {want q : Bool} {is : List PI} (h : ρ t = undef) : WS lo (⟨d, op, some (t, want), q, []⟩ :: is) K ρ H = WS lo is K (put ρ d undef) H := by
  rw [WS_of]
  unfold pval wantedP
  simp only [h]
  exact propext ⟨fun ⟨_, _, h, hk⟩ => (by cases h; exact hk), fun h => ⟨_, _, rfl, h⟩⟩

theorem put_app {d t : Nat} {v : Value} : put ρ (some d) v t = if t = d then v else ρ t := rfl
theorem put_none {v : Value} : put ρ none v = ρ := rfl
theorem ev_tmp {t : Nat} : ev ρ (.tmp t) = ρ t := rfl
theorem ev_const {v : Value} : ev ρ (.const v) = v := rfl
theorem ev_func {f : Nat} : ev ρ (.func f) = .func (.func f) #[] #[] := rfl

variable {q : Bool}
theorem oval_pure {op : POp} (h : looksPure op = true) : oval lo q op ρ H = (ppure op ρ).map (·, H) := by
  unfold oval
  rw [pop_pure h]
  cases ppure op ρ <;> rfl
theorem oval_mv {x : Operand} : oval lo q (.mv x) ρ H = some (ev ρ x, H) := rfl
theorem oval_pick {c a b : Operand} : oval lo q (.pick c a b) ρ H = (match ev ρ c with | .bool t => some ((if t = true then ev ρ a else ev ρ b), H) | _ => none) := by
  rw [oval_pure rfl]
  simp only [ppure]
  cases ev ρ c <;> rfl
theorem oval_bin {op : BinOp} {x y : Operand} : oval lo q (.bin op x y) ρ H = (pbin op (ev ρ x) (ev ρ y)).map (·, H) := oval_pure rfl
theorem oval_un {op : UnOp} {x : Operand} : oval lo q (.un op x) ρ H = (pun op (ev ρ x)).map (·, H) := oval_pure rfl
theorem oval_call {f : Nat} {args : List Operand} : oval lo q (.call f args) ρ H = pmCall f (args.map (ev ρ)) (if q then H.length else lo) H := rfl
end

/-- A function's call, by a walk through its body. -/
theorem call_W {f lo : Nat} {pf : PFunc} {args : List Value} {H : Heap} {R : Value → Heap → Prop} (ht : tab f = some pf) (ha : args.length ≤ pf.ntmps) (h : W lo pf.body (retQ pf.res R) (penv args) H) : ∃ v H', pmCall f args lo H = some (v, H') ∧ R v H' := by
  obtain ⟨x, ρ', H', h1, h2⟩ := h
  show ∃ v H', call cfg tab f args lo H = some (v, H') ∧ R v H'
  rw [call_eq cfg tab rfl ht]
  unfold runF
  rw [if_pos ha, h1]
  cases x with
  | exit i => exact h2.elim
  | normal =>
    obtain ⟨v, h3, h4⟩ := h2
    exact ⟨v, H', by simp only; rw [h3]; rfl, h4⟩
  | ret =>
    obtain ⟨v, h3, h4⟩ := h2
    exact ⟨v, H', by simp only; rw [h3]; rfl, h4⟩

end Go.PM
