/- One operation in its place: the model's step comes to a related state. -/
import Derived.Test.YtkoiolkkceknhaaPmReg
namespace Go.PM

/-- What is asked of a caller: that the model's call comes to what it tells. -/
def CallerSim (P : Program) (L0 : Nat) (call : Caller) : Prop :=
  ∀ f args lo H v H', call f args lo H = some (v, H') → ∀ m w rargs, Rel m L0 H w → L0 ≤ lo → L0 ≤ H.length → RL m args rargs → (∀ b, H.length ≤ b → b < H'.length → m b = none) →
    CallOk P f ∧ Calls P f rargs.toArray w fun e w' => ∃ m' rv, e = .returned rv ∧ RV m' v rv ∧ Rel m' L0 H' w' ∧ Trans lo m H w m' H' w'

section
variable {P : Program} {m : PMap} {L0 : Nat} {H : Heap} {w : World}

theorem pval_cases {call : Caller} {lo : Nat} {i : PI} {ρ : Env} {v : Value} {H' : Heap} (h : pval call lo i ρ H = some (v, H')) :
    (wantedP i.g ρ = some false ∧ v = undef ∧ H' = H) ∨
    (wantedP i.g ρ = some true ∧ i.cf.all (keepsOff ρ) = true ∧ (pop lo i.op ρ H = some (.val v H') ∨
      ∃ f args, pop lo i.op ρ H = some (.call f args) ∧ call f args (if i.quiet then H.length else lo) H = some (v, H'))) := by
  unfold pval at h
  split at h
  · cases h
  · rename_i hw; cases h; exact .inl ⟨hw, rfl, rfl⟩
  · rename_i hw
    split at h
    · rename_i hcf
      refine .inr ⟨hw, hcf, ?_⟩
      split at h
      · rename_i hp; cases h; exact .inl hp
      · rename_i f args hp; exact .inr ⟨f, args, hp, h⟩
      · cases h
    · cases h

theorem getD_bool {t : Array Value} {d : Nat} {b : Bool} (h : t.getD d undef = .bool b) : t[d]? = some (.bool b) := by
  rcases Nat.lt_or_ge d t.size with hd | hd
  · simp [hd] at h ⊢
    exact h
  · simp [Array.getElem?_eq_none hd, undef] at h

theorem wanted_rel {ops : Array Oper} {i : Nat} {o : Oper} {g : Option (Nat × Bool)} {ρ : Env} {a : Act} {t : Bool} (hg : guardOf ops.toList i o = some g) (hw : wantedP g ρ = some t)
    (hr : ∀ d ∈ readsOf ops.toList o, RV m (ρ d) (a.tmps.getD d undef)) : Region.wanted o (yielded ops a.tmps) = t := by
  unfold guardOf at hg
  unfold Region.wanted
  cases hgd : o.guard with
  | none =>
    rw [hgd] at hg
    cases hg
    cases hw
    rfl
  | some jw =>
    obtain ⟨j, want⟩ := jw
    rw [hgd] at hg
    simp only at hg
    split at hg
    · split at hg
      · rename_i d hd
        cases hg
        have hmem : d ∈ readsOf ops.toList o := by
          unfold readsOf
          rw [hgd]
          simp only [List.mem_append]
          right
          rw [hd]
          simp
        have hrd := hr d hmem
        simp only [wantedP] at hw
        split at hw
        · rename_i b hb
          cases hw
          rw [hb] at hrd
          generalize hx : a.tmps.getD d undef = x at hrd
          cases hrd
          have hy : yielded ops a.tmps j = some b := by
            unfold yielded
            have hd' : (ops[j]?).bind (·.dst) = some d := by simpa using hd
            rw [hd', Option.bind_some, getD_bool hx]
          simp only [hy]
          cases b <;> cases want <;> rfl
        · rename_i vs hb
          cases hw
          rw [hb] at hrd
          generalize hx : a.tmps.getD d undef = x at hrd
          obtain ⟨ws, rfl⟩ : ∃ ws, x = .tuple ws := by cases hrd; exact ⟨_, rfl⟩
          have hd' : (ops[j]?).bind (·.dst) = some d := by simpa using hd
          have hy : yielded ops a.tmps j = none := by
            unfold yielded
            rw [hd', Option.bind_some]
            rcases Nat.lt_or_ge d a.tmps.size with hlt | hlt
            · have : a.tmps[d]? = some (.tuple ws) := by rw [← hx]; simp [hlt]
              rw [this]
            · rw [Array.getElem?_eq_none hlt]
          simp only [hy]
          rfl
        · cases hw
      · cases hg
    · cases hg

theorem pop_lo {E : Cfg} {p : POp} {lo lo' : Nat} {ρ : Env} (h : clsOf E p = .quiet) : pop lo p ρ H = pop lo' p ρ H := by
  cases p <;> first | rfl | (simp [clsOf] at h; done)

theorem reads_operand {ops : List Oper} {o : Oper} {t : Nat} (h : Operand.tmp t ∈ o.op.operands) : t ∈ readsOf ops o := by
  unfold readsOf tmpsOf
  rw [List.mem_append]
  left
  rw [List.mem_filterMap]
  exact ⟨.tmp t, by simpa using h, rfl⟩

theorem prep_opnds {op : Op} {p : POp} (h : prepOp P op = some p) : ∀ x ∈ op.operands, opndOk x = true := by
  intro x hx
  unfold prepOp at h
  split at h
  · rename_i hall
    obtain ⟨i, hi, rfl⟩ := Array.getElem_of_mem hx
    exact Array.all_eq_true.1 hall i hi
  · cases h

theorem sim_op {E : Cfg} {n lo k : Nat} {ops : Array Oper} {o : Oper} {p : POp} {pi : PI} {call : Caller} {ρ : Env} {v : Value} {H' : Heap} {a : Act} {K : Act → World → Prop} {Q : Exit → Act → World → Prop} (ho : ops[k]? = some o) (hok : PIok P E n ops.toList k o p pi)
    (hq : pi.quiet = true → clsOf E p = .quiet) (hv : pval call lo pi ρ H = some (v, H')) (hr : ∀ t ∈ readsOf ops.toList o, RV m (ρ t) (a.tmps.getD t undef)) (hR : Rel m L0 H w) (hlo : L0 ≤ lo) (hlen : L0 ≤ H.length)
    (hf : ∀ b, H.length ≤ b → b < H'.length → m b = none) (hcall : CallerSim P L0 call)
    (hK : ∀ m' rv w', RV m' v rv → Rel m' L0 H' w' → Trans (if pi.quiet then H.length else lo) m H w m' H' w' → K (a.put o.dst rv) w') : wpOp P ops Q k K a w := by
  have hro : ∀ x ∈ o.op.operands, RV m (ev ρ x) (a.eval x) := fun x hx => ev_rel (prep_opnds hok.prep x hx) fun t ht => hr t (reads_operand (ht ▸ hx))
  unfold wpOp
  rw [ho]
  simp only
  rcases pval_cases hv with ⟨hw, rfl, rfl⟩ | ⟨hw, _, hp | ⟨f, args, hp, hc⟩⟩
  · rw [wanted_rel hok.guard hw hr]
    simp only [Bool.false_eq_true, if_false]
    exact hK m undef w (RV.undef m) hR (Trans.refl _ m _ w)
  · rw [wanted_rel hok.guard hw hr]
    simp only [if_true]
    left
    rw [hok.op] at hp
    have hs : StepSim P (execOp a.eval o) L0 (if pi.quiet then H.length else lo) m H w v H' := by
      split
      · rename_i hqq
        rw [pop_lo (lo' := H.length) (hq hqq)] at hp
        exact sim_pop hok.prep hp hro hR hlen hf
      · exact sim_pop hok.prep hp hro hR hlo hf
    obtain ⟨rv, w', m', hrun, h1, h2, h3⟩ := hs
    unfold Oper.wp
    rcases hrun with hrun | ⟨hrun, rfl⟩
    · rw [hrun]
      exact hK m' rv w' h1 h2 h3
    · rw [hrun]
      exact hK m' undef w' h1 h2 h3
  · rw [wanted_rel hok.guard hw hr]
    simp only [if_true]
    left
    rw [hok.op] at hp
    have hlo' : L0 ≤ (if pi.quiet then H.length else lo) := by split <;> assumption
    obtain ⟨rargs, hra, hrun'⟩ := sim_pcall hok.prep hp hro
    have hrun := hrun' (hcall f args _ H v H' hc m w rargs hR hlo' hlen hra hf).1
    unfold Oper.wp
    rw [hrun w]
    show Calls P f rargs.toArray w _
    refine (hcall f args _ H v H' hc m w rargs hR hlo' hlen hra hf).2.mono ?_
    rintro e w' ⟨m', rv, rfl, h1, h2, h3⟩
    exact hK m' rv w' h1 h2 h3

end
end Go.PM
