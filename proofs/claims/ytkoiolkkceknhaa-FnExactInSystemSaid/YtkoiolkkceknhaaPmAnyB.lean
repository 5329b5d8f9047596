/- One operation of a drawn run. -/
import Derived.Test.YtkoiolkkceknhaaPmAny
namespace Go.PM

theorem next_place (p : Nat → Prop) : ∀ (d c N : Nat), N - c = d → c ≤ N → ∃ c', c ≤ c' ∧ c' ≤ N ∧ (∀ i, c ≤ i → i < c' → ¬ p i) ∧ (c' < N → p c')
  | 0, c, N, hd, hc => ⟨c, Nat.le_refl _, hc, fun i h1 h2 => by omega, fun h => by omega⟩
  | d + 1, c, N, hd, hc => by
    by_cases hp : p c
    · exact ⟨c, Nat.le_refl _, hc, fun i h1 h2 => by omega, fun _ => hp⟩
    · obtain ⟨c', h1, h2, h3, h4⟩ := next_place p d (c + 1) N (by omega) (by omega)
      refine ⟨c', by omega, h2, fun i hi1 hi2 => ?_, h4⟩
      rcases Nat.lt_or_ge c i with h | h
      · exact h3 i h hi2
      · have : i = c := by omega
        subst this; exact hp

theorem rv_block {m : PMap} {v r : Value} {b : Nat} (h : RV m v r) (hb : blkOf v = some b) : ∃ l, m b = some l := by
  cases h <;> first | (cases hb; done) | (cases hb; exact ⟨_, by assumption⟩)

section
variable {P : Program} {E : Cfg} {n : Nat} {ops : Array Oper} {pis : List PI} {ps : List POp} {M : List Nat} {call : Caller} {lo L0 : Nat} {st : Nat → Env × Heap}
  {m0 : PMap} {w0 : World} {ds : List Deferred} {S : Nat → Prop} {m : PMap} {c : Nat} {a : Act} {w : World} {k : Nat} {o : Oper} {p : POp} {pi : PI}

/-- What stands at the place of an operation that may come up now. -/
structure At (P : Program) (E : Cfg) (n : Nat) (ops : Array Oper) (pis : List PI) (ps : List POp) (M : List Nat) (S : Nat → Prop) (k : Nat) (o : Oper) (p : POp) (pi : PI) : Prop where
  lt : k < ops.size
  eo : ops[k]? = some o
  ep : ps[k]? = some p
  epi : pis[k]? = some pi
  ok : PIok P E n ops.toList k o p pi
  dr : PIdraw E ops.toList ps M k o p pi
  notS : ¬ S k
  anc : ∀ i, (M.getD k 0).testBit i = true → S i
  desc : ∀ i, i < ops.size → S i → (M.getD i 0).testBit k = true → False

theorem At.ah (A : At P E n ops pis ps M S k o p pi) {i : Nat} (hi : i < ops.size) (h : i = k ∨ ahead M k i = true) : S i ↔ i < k := by
  rcases Nat.lt_trichotomy i k with h1 | h1 | h1
  · refine ⟨fun _ => h1, fun _ => ?_⟩
    rcases h with h | h
    · omega
    · rw [ahead_gt h1] at h; exact A.anc i h
  · subst h1
    exact ⟨fun h => absurd h A.notS, fun h => by omega⟩
  · refine ⟨fun hs => ?_, fun h => by omega⟩
    rcases h with h | h
    · omega
    · rw [ahead_lt h1] at h; exact absurd h (fun h => A.desc i hi hs h)

theorem lt_of_some {i : Nat} {oi : Oper} (h : ops.toList[i]? = some oi) : i < ops.size := by
  have := (List.getElem?_eq_some_iff.1 h).1
  simpa using this

theorem At.reads (A : At P E n ops pis ps M S k o p pi) (I : AnyInv E n ops ps lo L0 st m0 w0 ds S m c a w) : ∀ t ∈ readsOf ops.toList o, RV m ((st k).1 t) (a.tmps.getD t undef) := by
  intro t ht
  refine I.tm t k (Nat.le_of_lt A.lt) fun i oi hi hd => ?_
  exact A.ah (lt_of_some hi) (A.dr.temps t (List.mem_append_right _ ht) i oi hi hd)

theorem At.operand (A : At P E n ops pis ps M S k o p pi) (I : AnyInv E n ops ps lo L0 st m0 w0 ds S m c a w) {x : Operand} (hx : x ∈ o.op.operands) : RV m (ev (st k).1 x) (a.eval x) :=
  ev_rel (prep_opnds A.ok.prep x hx) fun t ht => A.reads I t (reads_operand (ht ▸ hx))

theorem At.pair (T : Text P E n ops pis ps M call lo st) {i j : Nat} {p q : POp} (hij : i < j) (hj : j < ops.size) (hp : ps[i]? = some p) (hq : ps[j]? = some q) : ∃ qi, pis[j]? = some qi ∧ Pair E ops.toList M i j p q qi.cf := by
  obtain ⟨o, q', qi, _, hq', hqi, _, hd, _⟩ := T.at hj
  rw [hq] at hq'
  cases hq'
  exact ⟨qi, hqi, hd.pairs i hij p hp⟩

/-- What has come up behind the next operation that writes is no maker and no writer. -/
theorem AnyInv.late (T : Text P E n ops pis ps M call lo st) (I : AnyInv E n ops ps lo L0 st m0 w0 ds S m c a w) {i : Nat} {q : POp} (hi : c < i) (hn : i < ops.size) (hS : S i) (hq : ps[i]? = some q) : clsOf E q = .pure ∨ clsOf E q = .look := by
  obtain ⟨hcS, pc, hpc, hcc⟩ := I.atc (by omega)
  obtain ⟨qi, _, hpair⟩ := At.pair T hi hn hpc hq
  unfold Pair at hpair
  rw [hcc] at hpair
  obtain ⟨oi, _, _, hoi, _⟩ := T.at hn
  have hoi' : ops.toList[i]? = some oi := by simpa using hoi
  have fin : ahead M c i = true → False := fun h => by
    rw [ahead_lt hi] at h
    exact hcS (T.anc I.back hoi' (I.back i oi hoi' hS) h)
  cases hcl : clsOf E q with
  | pure => exact .inl rfl
  | look => exact .inr rfl
  | quiet => rw [hcl] at hpair; exact absurd hpair fin
  | write => rw [hcl] at hpair; exact absurd hpair fin

/-- The temporaries, behind the operation. -/
theorem AnyInv.temps (T : Text P E n ops pis ps M call lo st) (I : AnyInv E n ops ps lo L0 st m0 w0 ds S m c a w) (A : At P E n ops pis ps M S k o p pi) {m' : PMap} {v rv : Value} (hm : ∀ b l, m b = some l → m' b = some l) (hv : RV m' v rv)
    (he : (st (k + 1)).1 = put (st k).1 o.dst v) : ∀ t j, j ≤ ops.size → (∀ i o, ops.toList[i]? = some o → o.dst = some t → ((i = k ∨ S i) ↔ i < j)) → RV m' ((st j).1 t) ((a.put o.dst rv).tmps.getD t undef) := by
  intro t j hj hw
  have hok : ops.toList[k]? = some o := by simpa using A.eo
  cases hd : o.dst with
  | none =>
    show RV m' _ (a.tmps.getD t undef)
    refine (I.tm t j hj fun i oi hi hdi => ?_).mono hm
    have hne : i ≠ k := fun e => by subst e; rw [hok] at hi; cases hi; rw [hd] at hdi; cases hdi
    rw [← hw i oi hi hdi]
    simp [hne]
  | some d =>
    rw [put_getD (by rw [I.tsize]; exact A.ok.bound d hd)]
    by_cases htd : t = d
    · subst htd
      rw [if_pos rfl]
      have hkj : k < j := (hw k o hok hd).1 (.inl rfl)
      have e1 : (st j).1 t = (st (k + 1)).1 t := by
        refine T.envSame hkj hj fun i oi hi1 hi2 hoi hdi => ?_
        have hoi' : ops.toList[i]? = some oi := by simpa using hoi
        have hS := (hw i oi hoi' hdi).2 hi2
        have hik : i ≠ k := by omega
        have := (A.ah (lt_of_some hoi') (A.dr.temps t (List.mem_append_left _ (by rw [hd]; simp)) i oi hoi' hdi)).1 (hS.resolve_left hik)
        omega
      rw [e1, he, hd]
      show RV m' (if t = t then v else _) rv
      rw [if_pos rfl]
      exact hv
    · rw [if_neg htd]
      refine (I.tm t j hj fun i oi hi hdi => ?_).mono hm
      have hne : i ≠ k := fun e => by subst e; rw [hok] at hi; cases hi; rw [hd] at hdi; cases hdi; exact htd rfl
      rw [← hw i oi hi hdi]
      simp [hne]

theorem AnyInv.back' (I : AnyInv E n ops ps lo L0 st m0 w0 ds S m c a w) (A : At P E n ops pis ps M S k o p pi) (hr : ∀ e ∈ o.after.toList, Region.binds .any e = true → S e.on) :
    ∀ i oi, ops.toList[i]? = some oi → (i = k ∨ S i) → ∀ e ∈ oi.after.toList, Region.binds .any e = true → (e.on = k ∨ S e.on) := by
  intro i oi hi hS e he hb
  rcases hS with rfl | hS
  · have : ops.toList[i]? = some o := by simpa using A.eo
    rw [this] at hi
    cases hi
    exact .inr (hr e he hb)
  · exact .inr (I.back i oi hi hS e he hb)

theorem unwritten_ev (T : Text P E n ops pis ps M call lo st) {i j : Nat} {x : Operand} (hij : i ≤ j) (hj : j ≤ ops.size) (h : unwritten ops.toList i j x = true) : ev (st j).1 x = ev (st i).1 x := by
  cases x with
  | tmp t =>
    refine T.envSame hij hj fun q oq h1 h2 hoq hd => ?_
    have hall := List.all_eq_true.1 h oq (by
      have hoq' : ops.toList[q]? = some oq := by simpa using hoq
      rw [List.mem_iff_getElem?]
      refine ⟨q - i, ?_⟩
      rw [List.getElem?_drop, List.getElem?_take, show i + (q - i) = q by omega, if_pos h2, hoq'])
    simp [hd] at hall
  | const v => rfl
  | global g => rfl
  | func f => rfl

/-- A pure operation, or a look, comes to the same at the heap of the next operation that writes. -/
theorem AnyInv.look (T : Text P E n ops pis ps M call lo st) (I : AnyInv E n ops ps lo L0 st m0 w0 ds S m c a w) (A : At P E n ops pis ps M S k o p pi) (hfresh : ∀ b, (st 0).2.length ≤ b → b < (st ops.size).2.length → m0 b = none)
    (hcl : clsOf E p = .pure ∨ clsOf E p = .look) {v : Value} (hv : pval call lo pi (st k).1 (st k).2 = some (v, (st (k + 1)).2)) : pval call lo pi (st k).1 (st c).2 = some (v, (st c).2) := by
  rcases pval_cases hv with ⟨hw, rfl, _⟩ | ⟨hw, hcf, hp | ⟨f, args, hp, _⟩⟩
  · unfold pval
    rw [hw]
  · unfold pval
    rw [hw]
    simp only [hcf, if_true]
    have key : pop lo pi.op (st k).1 (st c).2 = some (.val v (st c).2) := by
      rw [A.ok.op] at hp ⊢
      rcases hcl with hcl | hcl
      · have hlp : looksPure p = true := by
          cases p <;> first | rfl | (cases hcl; done) | skip
          case sub s x l hh mx => cases mx <;> cases hcl
          case call f as => simp only [clsOf] at hcl; split at hcl <;> cases hcl
        rw [pop_pure hlp] at hp ⊢
        rw [(pure_out hp).1]
        rfl
      · refine (pop_look hp hcl fun x hx b hb hlt => ?_).2
        rcases Nat.lt_or_ge c k with hck | hck
        · obtain ⟨hcS, pc, hpc, hcc⟩ := I.atc (Nat.lt_trans hck A.lt)
          have hlt' : b < (st c).2.length := by
            rcases Nat.lt_or_ge b (st c).2.length with h | h
            · exact h
            · exfalso
              obtain ⟨l, hl⟩ := rv_block (A.operand I (touch_mem A.ok.prep hx)) hb
              have h0 := T.len (i := 0) (j := c) (Nat.zero_le _) I.cle
              have h1 := T.len (i := k) (j := ops.size) (Nat.le_of_lt A.lt) (Nat.le_refl _)
              rcases I.dom b l hl with h2 | ⟨i, hiS, hin, hi1, hi2⟩
              · exact h2 (hfresh b (by omega) (by omega))
              · rcases Nat.lt_trichotomy i c with h3 | h3 | h3
                · have := T.len (i := i + 1) (j := c) h3 I.cle
                  omega
                · subst h3; exact hcS hiS
                · obtain ⟨oi, qi, pii, _, hqi, _⟩ := T.at hin
                  have := I.late T h3 hin hiS hqi
                  rw [T.nowrite hin hqi this] at hi2
                  omega
          refine (T.sameB (Nat.le_of_lt hck) (Nat.le_of_lt A.lt) b hlt' fun j hj1 hj2 q qi hq hqi hqw hwant => ?_).symm
          obtain ⟨pi', hpi', hpair⟩ := At.pair T hj2 A.lt hq A.ep
          rw [A.epi] at hpi'
          cases hpi'
          unfold Pair at hpair
          rw [hqw, hcl] at hpair
          rcases hpair with h | ⟨xa, xb, ha, hb', hun, hmem⟩
          · exfalso
            rw [ahead_lt hj2] at h
            have hjS := A.anc j h
            rcases Nat.lt_or_ge c j with h3 | h3
            · rcases I.late T h3 (Nat.lt_trans hj2 A.lt) hjS hq with h4 | h4 <;> (rw [hqw] at h4; cases h4)
            · have : j = c := by omega
              subst this; exact hcS hjS
          · rw [hx] at hb'
            cases hb'
            refine ⟨xa, ha, fun e => ?_⟩
            have hk := List.all_eq_true.1 hcf _ hmem
            unfold keepsOff at hk
            rw [unwritten_ev T (Nat.le_of_lt hj2) (Nat.le_of_lt A.lt) hun, e, hb] at hk
            simp at hk
        · refine T.sameB hck I.cle b hlt fun j hj1 hj2 q qi hq hqi hqw hwant => ?_
          have hjk : k < j := by
            rcases Nat.lt_or_ge k j with h | h
            · exact h
            · have : j = k := by omega
              subst this
              rw [A.ep] at hq
              cases hq
              rw [hqw] at hcl
              cases hcl
          have hjn : j < ops.size := Nat.lt_of_lt_of_le hj2 I.cle
          obtain ⟨oj, q', qi', hoj, hq', hqi', hokj, _, vj, hvj, _⟩ := T.at hjn
          rw [hq] at hq'
          cases hq'
          rw [hqi] at hqi'
          cases hqi'
          obtain ⟨qi', hqi', hpair⟩ := At.pair T hjk hjn A.ep hq
          rw [hqi] at hqi'
          cases hqi'
          unfold Pair at hpair
          rw [hqw, hcl] at hpair
          rcases hpair with h | ⟨xa, xb, ha, hb', hun, hmem⟩
          · exfalso
            rw [ahead_lt hjk] at h
            exact A.desc j hjn (I.before j q hj2 hq hqw) h
          · rw [hx] at ha
            cases ha
            refine ⟨xb, hb', fun e => ?_⟩
            have hcfj : qi.cf.all (keepsOff (st j).1) = true := by
              rcases pval_cases hvj with ⟨h, _⟩ | ⟨_, h, _⟩
              · rw [hwant] at h; cases h
              · exact h
            have hk := List.all_eq_true.1 hcfj _ hmem
            unfold keepsOff at hk
            rw [unwritten_ev T (Nat.le_of_lt hjk) (Nat.le_of_lt hjn) hun, e, hb] at hk
            simp at hk
    rw [key]
  · exfalso
    rw [A.ok.op] at hp
    rcases pop_call_key hp with ⟨g, as, rfl⟩ | ⟨g, as, rfl⟩
    · simp only [clsOf] at hcl
      split at hcl <;> rcases hcl with h | h <;> cases h
    · rcases hcl with h | h <;> cases h

end
end Go.PM
