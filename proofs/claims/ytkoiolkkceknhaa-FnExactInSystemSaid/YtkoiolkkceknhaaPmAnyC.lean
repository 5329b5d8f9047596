/- A statement of open order, run: every order comes to what the text's order comes to. -/
import Derived.Test.YtkoiolkkceknhaaPmAnyB
namespace Go.PM

section
variable {P : Program} {E : Cfg} {n : Nat} {ops : Array Oper} {pis : List PI} {ps : List POp} {M : List Nat} {call : Caller} {lo L0 : Nat} {st : Nat → Env × Heap}
  {m0 : PMap} {w0 : World} {ds : List Deferred}

theorem not_live_len {H : Heap} {b : Nat} (h : H.length ≤ b) : ¬ Live H b := fun hl => by have := hl.lt; omega

theorem any_step {S : Nat → Prop} {m : PMap} {c : Nat} {a : Act} {w : World} {k : Nat} {o : Oper} (T : Text P E n ops pis ps M call lo st) (hcall : CallerSim P L0 call) (hlo : L0 ≤ lo) (hl0 : L0 ≤ (st 0).2.length)
    (hfresh : ∀ b, (st 0).2.length ≤ b → b < (st ops.size).2.length → m0 b = none) (I : AnyInv E n ops ps lo L0 st m0 w0 ds S m c a w) (ho : ops[k]? = some o) (hkS : ¬ S k)
    (hr : ∀ e ∈ o.after.toList, Region.binds .any e = true → S e.on) {K : Act → World → Prop} {Q : Exit → Act → World → Prop}
    (hK : ∀ m' c' a' w', AnyInv E n ops ps lo L0 st m0 w0 ds (fun i => i = k ∨ S i) m' c' a' w' → K a' w') : wpOp P ops Q k K a w := by
  have hlt : k < ops.size := (Array.getElem?_eq_some_iff.1 ho).1
  obtain ⟨o', p, pi, ho', hp, hpi, hok, hdr, v, hv, he⟩ := T.at hlt
  rw [ho] at ho'
  cases ho'
  have ho2 : ops.toList[k]? = some o := by simpa using ho
  have A : At P E n ops pis ps M S k o p pi := ⟨hlt, ho, hp, hpi, hok, hdr, hkS, fun i hi => T.anc I.back ho2 hr hi, fun i hi hS hb => by
    have hio : ops.toList[i]? = some ops[i] := by simp [hi]
    exact hkS (T.anc I.back hio (I.back i _ hio hS) hb)⟩
  have hreads := A.reads I
  have hlen0 := T.len (i := 0) (j := c) (Nat.zero_le _) I.cle
  have hlenc := T.len (i := c) (j := ops.size) I.cle (Nat.le_refl _)
  have hlenk := T.len (i := 0) (j := k) (Nat.zero_le _) (Nat.le_of_lt hlt)
  have hlenk1 := T.len (i := k + 1) (j := ops.size) hlt (Nat.le_refl _)
  have hlenkk := T.len1 hlt
  -- a block that this operation makes is not spoken of
  have hfk : ∀ b, (st k).2.length ≤ b → b < (st (k + 1)).2.length → m b = none := by
    intro b h1 h2
    cases hm : m b with
    | none => rfl
    | some l =>
      exfalso
      rcases I.dom b l hm with h3 | ⟨i, hiS, hin, hi1, hi2⟩
      · exact h3 (hfresh b (by omega) (by omega))
      · rcases Nat.lt_trichotomy i k with h3 | h3 | h3
        · have := T.len (i := i + 1) (j := k) h3 (Nat.le_of_lt hlt)
          omega
        · subst h3; exact hkS hiS
        · have := T.len (i := k + 1) (j := i) h3 (Nat.le_of_lt hin)
          omega
  have lookcase : (clsOf E p = .pure ∨ clsOf E p = .look) → wpOp P ops Q k K a w := by
    intro hcl
    have hq : pi.quiet = false := by
      rw [hdr.quiet]
      rcases hcl with h | h <;> rw [h]
    have hw : clsOf E p ≠ .write := by rcases hcl with h | h <;> (rw [h]; exact fun h => by cases h)
    refine sim_op ho hok (fun h => by rw [hq] at h; cases h) (I.look T A hfresh hcl hv) hreads I.rel hlo (Nat.le_trans hl0 hlen0) (fun b h1 h2 => by omega) hcall fun m' rv w' hrv hR hT => ?_
    rw [hq] at hT
    simp only [Bool.false_eq_true, if_false] at hT
    have hmm : m' = m := by
      funext b
      cases hm : m b with
      | some l => exact hT.ext b l hm
      | none =>
        cases hm' : m' b with
        | none => rfl
        | some l => have := (hT.new b l hm' hm).1; omega
    subst hmm
    refine hK m' c _ w' ⟨by rw [put_size]; exact I.tsize, by rw [put_defs]; exact I.defs, I.back' A hr, I.temps T A (fun _ _ h => h) hrv he, I.cle, fun i q h1 h2 h3 => .inr (I.before i q h1 h2 h3), ?_, hR, ?_, ?_⟩
    · intro h
      obtain ⟨h1, q, h2, h3⟩ := I.atc h
      refine ⟨fun hS => hS.elim (fun e => ?_) h1, q, h2, h3⟩
      subst e
      rw [hp] at h2
      cases h2
      exact hw h3
    · exact Trans.trans (fun b h1 h2 => hfresh b h1 (by omega)) (T.extAt (Nat.zero_le _) I.cle) (Ext.refl _ _) I.tr hT
    · intro b l hb
      exact (I.dom b l hb).imp id fun ⟨i, h1, h2⟩ => ⟨i, .inr h1, h2⟩
  cases hcl : clsOf E p with
  | write =>
    have hkc : k = c := by
      rcases Nat.lt_trichotomy k c with h | h | h
      · exact absurd (I.before k p h hp hcl) hkS
      · exact h
      · exfalso
        obtain ⟨hcS, pc, hpc, hcc⟩ := I.atc (by omega)
        obtain ⟨qi, _, hpair⟩ := At.pair T h hlt hpc hp
        unfold Pair at hpair
        rw [hcc, hcl] at hpair
        simp only at hpair
        rw [ahead_lt h] at hpair
        exact hcS (A.anc c hpair)
    subst hkc
    refine sim_op ho hok (fun hq => by rw [hdr.quiet, hcl] at hq; cases hq) hv hreads I.rel hlo (Nat.le_trans hl0 hlen0) hfk hcall fun m' rv w' hrv hR hT => ?_
    have hq : pi.quiet = false := by rw [hdr.quiet, hcl]
    rw [hq] at hT
    simp only [Bool.false_eq_true, if_false] at hT
    obtain ⟨c', hc1, hc2, hc3, hc4⟩ := next_place (fun i => ∃ q, ps[i]? = some q ∧ clsOf E q = .write) _ (k + 1) ops.size rfl hlt
    have hsame : ∀ b, b < (st (k + 1)).2.length → (st c').2[b]? = (st (k + 1)).2[b]? := T.same hc1 hc2 fun i h1 h2 q hq hw => hc3 i h1 h2 ⟨q, hq, hw⟩
    have hlenc' := T.len hc1 hc2
    have hlenn := T.len (i := c') (j := ops.size) hc2 (Nat.le_refl _)
    have hdom : ∀ b l, m' b = some l → m0 b ≠ none ∨ ∃ i, (i = k ∨ S i) ∧ i < ops.size ∧ (st i).2.length ≤ b ∧ b < (st (i + 1)).2.length := by
      intro b l hb
      cases hm : m b with
      | some l' => exact (I.dom b l' hm).imp id fun ⟨i, h1, h2⟩ => ⟨i, .inr h1, h2⟩
      | none => exact .inr ⟨k, .inl rfl, hlt, (hT.new b l hb hm).1⟩
    have hafter : ∀ b, (st (k + 1)).2.length ≤ b → b < (st c').2.length → m' b = none := by
      intro b h1 h2
      cases hm : m' b with
      | none => rfl
      | some l =>
        exfalso
        rcases hdom b l hm with h3 | ⟨i, hiS, hin, hi1, hi2⟩
        · exact h3 (hfresh b (by omega) (by omega))
        · rcases Nat.lt_trichotomy i k with h3 | h3 | h3
          · have := T.len (i := i + 1) (j := k) h3 (Nat.le_of_lt hlt)
            omega
          · subst h3; omega
          · obtain ⟨oi, qi, pii, _, hqi, _⟩ := T.at hin
            have := I.late T h3 hin (hiS.resolve_left (by omega)) hqi
            rw [T.nowrite hin hqi this] at hi2
            omega
    have hTT : Trans lo m0 (st 0).2 w0 m' (st (k + 1)).2 w' := Trans.trans (fun b h1 h2 => hfresh b h1 (by omega)) (T.extAt (Nat.zero_le _) (Nat.le_of_lt hlt)) (T.extAt (Nat.le_succ _) hlt) I.tr hT
    refine hK m' c' _ w' ⟨by rw [put_size]; exact I.tsize, by rw [put_defs]; exact I.defs, I.back' A hr, I.temps T A hT.ext hrv he, hc2, ?_, ?_, hR.grow hsame hafter, ?_, hdom⟩
    · intro i q hi hq hw
      rcases Nat.lt_trichotomy i k with h | h | h
      · exact .inr (I.before i q h hq hw)
      · exact .inl h
      · exact absurd ⟨q, hq, hw⟩ (hc3 i h hi)
    · intro h
      obtain ⟨q, hq, hw⟩ := hc4 h
      refine ⟨fun hS => ?_, q, hq, hw⟩
      rcases hS with hS | hS
      · omega
      · rcases I.late T (by omega) h hS hq with h4 | h4 <;> (rw [hw] at h4; cases h4)
    · refine ⟨hTT.ext, fun b l hb hn => ?_, hTT.size, hTT.keep, hTT.same⟩
      obtain ⟨⟨h1, h2⟩, h3⟩ := hTT.new b l hb hn
      refine ⟨⟨h1, by omega⟩, ?_⟩
      rcases h3 with h3 | h3 | h3
      · exact .inl h3
      · exact .inr (.inl fun hl => h3 ((live_congr (hsame b h2)).1 hl))
      · exact .inr (.inr h3)
  | quiet =>
    have hkc : k < c := by
      rcases Nat.lt_or_ge k c with h | h
      · exact h
      · exfalso
        rcases Nat.lt_or_ge c k with h' | h'
        · obtain ⟨hcS, pc, hpc, hcc⟩ := I.atc (by omega)
          obtain ⟨qi, _, hpair⟩ := At.pair T h' hlt hpc hp
          unfold Pair at hpair
          rw [hcc, hcl] at hpair
          simp only at hpair
          rw [ahead_lt h'] at hpair
          exact hcS (A.anc c hpair)
        · have : k = c := by omega
          subst this
          obtain ⟨_, pc, hpc, hcc⟩ := I.atc hlt
          rw [hp] at hpc
          cases hpc
          rw [hcl] at hcc
          cases hcc
    have hnow : ∀ i, k < i → i < c → ∀ q, ps[i]? = some q → clsOf E q ≠ .write := by
      intro i h1 h2 q hq hw
      have hin : i < ops.size := Nat.lt_of_lt_of_le h2 I.cle
      obtain ⟨qi, _, hpair⟩ := At.pair T h1 hin hp hq
      unfold Pair at hpair
      rw [hcl, hw] at hpair
      simp only at hpair
      rw [ahead_lt h1] at hpair
      exact A.desc i hin (I.before i q h2 hq hw) hpair
    have hs1 : ∀ b, b < (st (k + 1)).2.length → (st c).2[b]? = (st (k + 1)).2[b]? := T.same hkc I.cle fun i h1 h2 q hq => hnow i h1 h2 q hq
    have hs0 : ∀ b, b < (st k).2.length → (st c).2[b]? = (st k).2[b]? := T.same (Nat.le_of_lt hkc) I.cle fun i h1 h2 q hq => by
      rcases Nat.lt_or_ge k i with h | h
      · exact hnow i h h2 q hq
      · have : i = k := by omega
        subst this
        rw [hp] at hq
        cases hq
        rw [hcl]
        exact fun h => by cases h
    have hlk1c := T.len (i := k + 1) (j := c) hkc I.cle
    refine sim_op ho hok (fun _ => hcl) hv hreads (I.rel.restrict hs0) hlo (Nat.le_trans hl0 hlenk) hfk hcall fun m' rv w' hrv hR hT => ?_
    have hq : pi.quiet = true := by rw [hdr.quiet, hcl]
    rw [hq] at hT
    simp only [if_true] at hT
    have hkeep : ∀ rb, rb < w.heap.size → w'.heap[rb]? = w.heap[rb]? := fun rb hrb => hT.keep rb hrb fun b l hb _ hl => absurd hl (not_live_len hb)
    have hnew : ∀ b l, m' b = some l → m b = none → ((st k).2.length ≤ b ∧ b < (st (k + 1)).2.length) ∧ (w.heap.size ≤ l.rb ∨ ¬ Live (st (k + 1)).2 b) := by
      intro b l h1 h2
      obtain ⟨h3, h4⟩ := hT.new b l h1 h2
      refine ⟨h3, ?_⟩
      rcases h4 with h4 | h4 | ⟨b0, l0, g1, _, g3, _⟩
      · exact .inl h4
      · exact .inr h4
      · exact absurd g3 (not_live_len g1)
    have hrbv : ∀ b l, m b = some l → l.rb < w.heap.size := by
      intro b l hb
      obtain ⟨arr, e, fz, h1, _⟩ := I.rel.valid b l hb
      exact (Array.getElem?_eq_some_iff.1 h1).1
    have hcell : ∀ rb j, rb < w.heap.size → w'.cell? ⟨rb, j, none⟩ = w.cell? ⟨rb, j, none⟩ := by
      intro rb j hrb
      unfold World.cell?
      simp only [hkeep rb hrb]
    have old : ∀ b l, m' b = some l → (st (k + 1)).2.length ≤ b → m b = some l := by
      intro b l hb h
      cases hm : m b with
      | some l' => have := hT.ext b l' hm; rw [hb] at this; exact this.symm
      | none => have := (hnew b l hb hm).1.2; omega
    refine hK m' c _ w' ⟨by rw [put_size]; exact I.tsize, by rw [put_defs]; exact I.defs, I.back' A hr, I.temps T A hT.ext hrv he, I.cle, fun i q h1 h2 h3 => .inr (I.before i q h1 h2 h3), ?_, ⟨hR.valid, ?_, ?_⟩, ?_, ?_⟩
    · intro h
      obtain ⟨h1, q, h2, h3⟩ := I.atc h
      exact ⟨fun hS => hS.elim (fun e => by omega) h1, q, h2, h3⟩
    · intro b l cs e pp hm hb
      rcases Nat.lt_or_ge b (st (k + 1)).2.length with h | h
      · exact hR.row b l cs e pp hm (by rw [← hs1 b h]; exact hb)
      · have hmo := old b l hm h
        obtain ⟨h1, h2, h3, h4⟩ := I.rel.row b l cs e pp hmo hb
        refine ⟨h1, h2, h3, fun i hi => ?_⟩
        obtain ⟨rv', g1, g2, g3⟩ := h4 i hi
        exact ⟨rv', by rw [hcell _ _ (hrbv b l hmo)]; exact g1, g2.mono hT.ext, g3⟩
    · intro b1 b2 l1 l2 hb1 h1 h2 hl1 hl2 hrb
      have fresh : ∀ b b' l l', m' b = some l → m b = none → m b' = some l' → Live (st c).2 b → l.rb = l'.rb → False := by
        intro b b' l l' g1 g2 g3 g4 g5
        obtain ⟨⟨_, g6⟩, g7⟩ := hnew b l g1 g2
        rcases g7 with g7 | g7
        · have := hrbv b' l' g3; omega
        · exact g7 ((live_congr (hs1 b g6)).1 g4)
      cases hm1 : m b1 with
      | some l1' =>
        cases hm2 : m b2 with
        | some l2' =>
          have e1 : l1' = l1 := by have := hT.ext b1 l1' hm1; rw [h1] at this; injection this with this; exact this.symm
          have e2 : l2' = l2 := by have := hT.ext b2 l2' hm2; rw [h2] at this; injection this with this; exact this.symm
          subst e1 e2
          exact I.rel.inj b1 b2 _ _ hb1 hm1 hm2 hl1 hl2 hrb
        | none =>
          have e1 : l1' = l1 := by have := hT.ext b1 l1' hm1; rw [h1] at this; injection this with this; exact this.symm
          subst e1
          exact (fresh b2 b1 _ _ h2 hm2 hm1 hl2 hrb.symm).elim
      | none =>
        cases hm2 : m b2 with
        | some l2' =>
          have e2 : l2' = l2 := by have := hT.ext b2 l2' hm2; rw [h2] at this; injection this with this; exact this.symm
          subst e2
          exact (fresh b1 b2 _ _ h1 hm1 hm2 hl1 hrb).elim
        | none =>
          have g1 := (hnew b1 l1 h1 hm1).1.2
          have g2 := (hnew b2 l2 h2 hm2).1.2
          exact hR.inj b1 b2 l1 l2 hb1 h1 h2 ((live_congr (hs1 b1 g1)).1 hl1) ((live_congr (hs1 b2 g2)).1 hl2) hrb
    · refine ⟨fun b l hb => hT.ext b l (I.tr.ext b l hb), fun b l hb hn => ?_, Nat.le_trans I.tr.size hT.size, fun rb hrb hk => ?_, hT.same.1.trans I.tr.same.1, hT.same.2.1.trans I.tr.same.2.1, hT.same.2.2.trans I.tr.same.2.2⟩
      · cases hm : m b with
        | some l' =>
          have e1 : l' = l := by have := hT.ext b l' hm; rw [hb] at this; injection this with this; exact this.symm
          subst e1
          exact I.tr.new b l' hm hn
        | none =>
          obtain ⟨⟨g1, g2⟩, g3⟩ := hnew b l hb hm
          refine ⟨⟨by omega, by omega⟩, ?_⟩
          rcases g3 with g3 | g3
          · exact .inl (Nat.le_trans I.tr.size g3)
          · exact .inr (.inl fun hl => g3 ((live_congr (hs1 b g2)).1 hl))
      · rw [hkeep rb (Nat.lt_of_lt_of_le hrb I.tr.size), I.tr.keep rb hrb hk]
    · intro b l hb
      cases hm : m b with
      | some l' => exact (I.dom b l' hm).imp id fun ⟨i, h1, h2⟩ => ⟨i, .inr h1, h2⟩
      | none => exact .inr ⟨k, .inl rfl, hlt, (hnew b l hb hm).1⟩
  | pure => exact lookcase (.inl hcl)
  | look => exact lookcase (.inr hcl)

end
end Go.PM
