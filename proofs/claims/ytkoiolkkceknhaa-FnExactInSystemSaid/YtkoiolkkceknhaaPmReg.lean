/- What has been checked of a statement of open order, in words that a proof can use. -/
import Derived.Test.YtkoiolkkceknhaaPmExt
namespace Go.PM

theorem mapM_spec {α β : Type} {f : α → Option β} : ∀ {l : List α} {ys : List β}, l.mapM f = some ys → ys.length = l.length ∧ ∀ i (h : i < l.length), f l[i] = ys[i]?
  | [], ys, h => by
    simp at h
    subst h
    exact ⟨rfl, fun i h => absurd h (by simp)⟩
  | x :: l, ys, h => by
    simp only [List.mapM_cons, Option.pure_def, Option.bind_eq_bind] at h
    cases h1 : f x with
    | none => rw [h1] at h; cases h
    | some y =>
      rw [h1] at h
      cases h2 : l.mapM f with
      | none => rw [h2] at h; cases h
      | some zs =>
        rw [h2] at h
        cases h
        obtain ⟨k1, k2⟩ := mapM_spec h2
        refine ⟨by simp [k1], fun i hi => ?_⟩
        cases i with
        | zero => simpa using h1
        | succ i => simpa using k2 i (by simpa using hi)

theorem mapM_get {α β : Type} {f : α → Option β} {l : List α} {ys : List β} (h : l.mapM f = some ys) {i : Nat} {x : α} (hx : l[i]? = some x) : ∃ y, ys[i]? = some y ∧ f x = some y := by
  obtain ⟨h1, h2⟩ := mapM_spec h
  obtain ⟨hlt, rfl⟩ := List.getElem?_eq_some_iff.1 hx
  have hlt' : i < ys.length := by omega
  refine ⟨ys[i], List.getElem?_eq_getElem hlt', ?_⟩
  rw [h2 i hlt, List.getElem?_eq_getElem hlt']

/-- What is known of two operations, i ahead of j in the text. -/
def Pair (E : Cfg) (ops : List Oper) (M : List Nat) (i j : Nat) (pi pj : POp) (l : List (Operand × Operand)) : Prop :=
  match clsOf E pi, clsOf E pj with
  | .look, .write | .write, .look => ahead M i j = true ∨ ∃ a b, touch pi = some a ∧ touch pj = some b ∧ unwritten ops i j a = true ∧ (a, b) ∈ l
  | .write, .write | .quiet, .write | .write, .quiet => ahead M i j = true
  | _, _ => True

theorem Pair.mono {E : Cfg} {ops : List Oper} {M : List Nat} {i j : Nat} {pi pj : POp} {l l' : List (Operand × Operand)} (h : Pair E ops M i j pi pj l) (hl : ∀ x ∈ l, x ∈ l') : Pair E ops M i j pi pj l' := by
  unfold Pair at h ⊢
  split at h
  all_goals first
    | exact h
    | exact h.imp id fun ⟨a, b, h1, h2, h3, h4⟩ => ⟨a, b, h1, h2, h3, hl _ h4⟩

theorem conflicts_spec {E : Cfg} {ops : List Oper} {ps : List POp} {M : List Nat} {j : Nat} {pj : POp} {l : List (Operand × Operand)} (h : conflicts E ops ps M j pj = some l) :
    ∀ i, i < j → ∀ pi, ps[i]? = some pi → Pair E ops M i j pi pj l := by
  have key : ∀ (is : List Nat) (l : List (Operand × Operand)), (is.foldr (fun i acc => match acc, ps[i]? with
    | some l, some pi =>
      match clsOf E pi, clsOf E pj with
      | .look, .write | .write, .look =>
        if ahead M i j then some l
        else match touch pi, touch pj with
          | some a, some b => if unwritten ops i j a then some ((a, b) :: l) else none
          | _, _ => none
      | .write, .write | .quiet, .write | .write, .quiet => if ahead M i j then some l else none
      | _, _ => some l
    | _, _ => none) (some [])) = some l → ∀ i ∈ is, ∀ pi, ps[i]? = some pi → Pair E ops M i j pi pj l := by
    intro is
    induction is with
    | nil => intro l _ i hi; cases hi
    | cons i0 is ih =>
      intro l h i hi pi hpi
      rw [List.foldr_cons] at h
      revert h
      generalize hacc : is.foldr _ (some []) = acc
      intro h
      cases acc with
      | none => cases h
      | some l0 =>
        have ih' := ih l0 hacc
        cases hp0 : ps[i0]? with
        | none => rw [hp0] at h; cases h
        | some p0 =>
          rw [hp0] at h
          simp only at h
          have step : (∀ x ∈ l0, x ∈ l) ∧ Pair E ops M i0 j p0 pj l := by
            unfold Pair
            split at h
            · rename_i c1 c2
              try rw [c1, c2]
              split at h
              · rename_i ha; cases h; exact ⟨fun x hx => hx, .inl ha⟩
              · split at h
                · rename_i a b ta tb
                  split at h
                  · rename_i hu; cases h; exact ⟨fun x hx => List.mem_cons_of_mem _ hx, .inr ⟨a, b, ta, tb, hu, List.mem_cons_self⟩⟩
                  · cases h
                · cases h
            · rename_i c1 c2
              try rw [c1, c2]
              split at h
              · rename_i ha; cases h; exact ⟨fun x hx => hx, .inl ha⟩
              · split at h
                · rename_i a b ta tb
                  split at h
                  · rename_i hu; cases h; exact ⟨fun x hx => List.mem_cons_of_mem _ hx, .inr ⟨a, b, ta, tb, hu, List.mem_cons_self⟩⟩
                  · cases h
                · cases h
            · rename_i c1 c2
              try rw [c1, c2]
              split at h
              · rename_i ha; cases h; exact ⟨fun x hx => hx, ha⟩
              · cases h
            · rename_i c1 c2
              try rw [c1, c2]
              split at h
              · rename_i ha; cases h; exact ⟨fun x hx => hx, ha⟩
              · cases h
            · rename_i c1 c2
              try rw [c1, c2]
              split at h
              · rename_i ha; cases h; exact ⟨fun x hx => hx, ha⟩
              · cases h
            · cases h
              refine ⟨fun x hx => hx, ?_⟩
              first | trivial | (split <;> first | trivial | (simp_all; done)) | (simp_all; done)
          rcases List.mem_cons.1 hi with rfl | hi
          · rw [hp0] at hpi
            cases hpi
            exact step.2
          · exact (ih' i hi pi hpi).mono step.1
  exact fun i hi pi hpi => key _ l h i (List.mem_range.2 hi) pi hpi

/-- What is known of the operation in place i. -/
structure PIok (P : Program) (E : Cfg) (n : Nat) (ops : List Oper) (i : Nat) (o : Oper) (p : POp) (pi : PI) : Prop where
  prep : prepOp P o.op = some p
  dst : pi.dst = o.dst
  op : pi.op = p
  guard : guardOf ops i o = some pi.g
  bound : ∀ d, o.dst = some d → d < n

/-- The same, in a statement of open order. -/
structure PIdraw (E : Cfg) (ops : List Oper) (ps : List POp) (M : List Nat) (i : Nat) (o : Oper) (p : POp) (pi : PI) : Prop where
  back : ∀ e ∈ o.after.toList, Region.binds .any e = true → e.on < i
  guard : ∀ j w, o.guard = some (j, w) → (M.getD i 0).testBit j = true
  temps : ∀ t ∈ o.dst.toList ++ readsOf ops o, ∀ k ok, ops[k]? = some ok → ok.dst = some t → k = i ∨ ahead M i k = true
  mask : M.getD i 0 = edgesMask o M
  quiet : pi.quiet = (match clsOf E p with | .quiet => true | _ => false)
  pairs : ∀ k, k < i → ∀ pk, ps[k]? = some pk → Pair E ops M k i pk p pi.cf

theorem prepPI_spec {P : Program} {E : Cfg} {n : Nat} {ops : List Oper} {ps : List POp} {M : List Nat} {draw : Bool} {i : Nat} {pi : PI} (h : prepPI E ops ps M n draw i = some pi) {o : Oper} {p : POp} (ho : ops[i]? = some o) (hp : ps[i]? = some p)
    (hprep : prepOp P o.op = some p) : PIok P E n ops i o p pi ∧ (draw = true → PIdraw E ops ps M i o p pi) ∧ (draw = false → pi.quiet = false ∧ pi.cf = []) := by
  unfold prepPI at h
  rw [ho, hp] at h
  simp only at h
  split at h
  case isFalse => cases h
  rename_i hb
  have hbound : ∀ d, o.dst = some d → d < n := by
    intro d hd
    rw [hd] at hb
    simpa [dstOk] using hb
  split at h
  · cases h
  · rename_i g hg
    cases draw with
    | false =>
      simp only [Bool.false_eq_true, if_false] at h
      cases h
      exact ⟨⟨hprep, rfl, rfl, hg, hbound⟩, (fun h => by cases h), fun _ => ⟨rfl, rfl⟩⟩
    | true =>
      simp only [if_true] at h
      split at h
      case isFalse => cases h
      rename_i hc
      simp only [Bool.and_eq_true, beq_iff_eq] at hc
      obtain ⟨⟨⟨c1, c2⟩, c3⟩, c4⟩ := hc
      cases hcf : conflicts E ops ps M i p with
      | none => rw [hcf] at h; cases h
      | some cf =>
        rw [hcf] at h
        cases h
        refine ⟨⟨hprep, rfl, rfl, hg, hbound⟩, fun _ => ⟨fun e he hbd => ?_, fun j w hj => ?_, fun t ht k ok hk hkd => ?_, c4, rfl, conflicts_spec hcf⟩, (fun h => by cases h)⟩
        · have := List.all_eq_true.1 c1 e he
          simpa [hbd] using this
        · rw [hj] at c2
          exact c2
        · have h1 := List.all_eq_true.1 c3 t ht
          have hk' : k < ops.length := (List.getElem?_eq_some_iff.1 hk).1
          have h2 := List.all_eq_true.1 h1 k (List.mem_range.2 hk')
          rw [hk] at h2
          simp only [Bool.or_eq_true, bne_iff_ne, ne_eq, beq_iff_eq] at h2
          rcases h2 with (h2 | h2) | h2
          · exact absurd hkd h2
          · exact .inl h2
          · exact .inr h2

/-- A region that has been taken. -/
structure RegOk (P : Program) (E : Cfg) (n : Nat) (ops : List Oper) (draw : Bool) (pis : List PI) (ps : List POp) (M : List Nat) : Prop where
  plen : ps.length = ops.length
  ilen : pis.length = ops.length
  each : ∀ i o, ops[i]? = some o → ∃ p pi, ps[i]? = some p ∧ pis[i]? = some pi ∧ PIok P E n ops i o p pi ∧ (draw = true → PIdraw E ops ps M i o p pi) ∧ (draw = false → pi.quiet = false ∧ pi.cf = [])

theorem prepRegion_spec {P : Program} {E : Cfg} {n : Nat} {ops : Array Oper} {draw : Bool} {pis : List PI} (h : prepRegion P E n ops draw = some pis) : ∃ ps M, RegOk P E n ops.toList draw pis ps M := by
  unfold prepRegion at h
  split at h
  · rename_i ps hps
    simp only at h
    generalize (if draw = true then masksGo ops.toList [] else []) = M at h
    obtain ⟨h1, h2⟩ := mapM_spec hps
    obtain ⟨h3, h4⟩ := mapM_spec h
    refine ⟨ps, M, h1, by simpa using h3, fun i o ho => ?_⟩
    have hlt := (List.getElem?_eq_some_iff.1 ho).1
    obtain ⟨p, hp, hprep⟩ := mapM_get hps ho
    have hr : (List.range ops.size)[i]? = some i := by rw [List.getElem?_range]; simpa using hlt
    obtain ⟨pi, hpi, hpp⟩ := mapM_get h hr
    exact ⟨p, pi, hp, hpi, prepPI_spec hpp ho hp hprep⟩
  · cases h

/-! ### who must be ahead of whom -/
theorem edgesMask_bit {o : Oper} {M : List Nat} {i : Nat} (h : (edgesMask o M).testBit i = true) : ∃ e ∈ o.after.toList, Region.binds .any e = true ∧ (e.on = i ∨ (M.getD e.on 0).testBit i = true) := by
  unfold edgesMask at h
  revert h
  generalize o.after.toList = es
  induction es with
  | nil => intro h; simp at h
  | cons e es ih =>
    intro h
    rw [List.foldr_cons] at h
    split at h
    · rename_i hb
      rw [Nat.testBit_or, Nat.testBit_or, Bool.or_eq_true, Bool.or_eq_true] at h
      rcases h with (h | h) | h
      · obtain ⟨e', h1, h2⟩ := ih h
        exact ⟨e', List.mem_cons_of_mem _ h1, h2⟩
      · refine ⟨e, List.mem_cons_self, hb, .inl ?_⟩
        rw [Nat.testBit_two_pow] at h
        simpa using h
      · exact ⟨e, List.mem_cons_self, hb, .inr h⟩
    · obtain ⟨e', h1, h2⟩ := ih h
      exact ⟨e', List.mem_cons_of_mem _ h1, h2⟩

/-- What is ahead of something that has come up has come up, too. -/
theorem closed_anc {ops : List Oper} {M : List Nat} {S : Nat → Prop} (hb : ∀ i o, ops[i]? = some o → ∀ e ∈ o.after.toList, Region.binds .any e = true → e.on < i) (hm : ∀ i o, ops[i]? = some o → M.getD i 0 = edgesMask o M)
    (hS : ∀ i o, ops[i]? = some o → S i → ∀ e ∈ o.after.toList, Region.binds .any e = true → S e.on) : ∀ j o, ops[j]? = some o → (∀ e ∈ o.after.toList, Region.binds .any e = true → S e.on) → ∀ i, (M.getD j 0).testBit i = true → S i := by
  intro j
  induction j using Nat.strongRecOn with
  | _ j ih =>
    intro o ho hj i hi
    rw [hm j o ho] at hi
    obtain ⟨e, he, hbd, h1⟩ := edgesMask_bit hi
    rcases h1 with rfl | h1
    · exact hj e he hbd
    · have hlt := hb j o ho e he hbd
      have hjl := (List.getElem?_eq_some_iff.1 ho).1
      have hel : e.on < ops.length := by omega
      exact ih e.on hlt ops[e.on] (List.getElem?_eq_getElem hel) (hS e.on _ (List.getElem?_eq_getElem hel) (hj e he hbd)) i h1

end Go.PM
