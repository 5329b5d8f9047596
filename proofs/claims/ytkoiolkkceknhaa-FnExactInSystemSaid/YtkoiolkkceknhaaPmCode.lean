/- Statements and code of the pure machine against the model's. -/
import Derived.Test.YtkoiolkkceknhaaPmAnyC
import Derived.LoopN
namespace Go.PM

section
variable {P : Program} {E : Cfg} {n : Nat} {call : Caller} {lo L0 : Nat}

theorem Trans.fresh {m m' : PMap} {H H1 H2 : Heap} {w w' : World} (h : Trans lo m H w m' H1 w') (h1 : H.length ≤ H1.length) (hf : ∀ b, H.length ≤ b → b < H2.length → m b = none) : ∀ b, H1.length ≤ b → b < H2.length → m' b = none := by
  intro b hb1 hb2
  cases hm : m' b with
  | none => rfl
  | some l =>
    exfalso
    have hn := hf b (by omega) hb2
    have := (h.new b l hm hn).1
    omega

/-- Where a run stands. -/
structure Here (n L0 : Nat) (m : PMap) (ρ : Env) (H : Heap) (a : Act) (w : World) : Prop where
  tsize : a.tmps.size = n
  defs : a.defers = []
  env : ∀ t, RV m (ρ t) (a.tmps.getD t undef)
  rel : Rel m L0 H w

theorem countP_lt {p q : Nat → Bool} : ∀ {l : List Nat} {i : Nat}, (∀ x ∈ l, q x = true → p x = true) → i ∈ l → p i = true → q i = false → l.countP q < l.countP p
  | x :: l, i, h, hi, hp, hq => by
    rw [List.countP_cons, List.countP_cons]
    have hle : l.countP q ≤ l.countP p := List.countP_mono_left fun x hx => h x (List.mem_cons_of_mem _ hx)
    rcases List.mem_cons.1 hi with rfl | hi
    · rw [if_neg (by simp [hq]), if_pos hp]; omega
    · have := countP_lt (fun x hx => h x (List.mem_cons_of_mem _ hx)) hi hp hq
      have : (if q x = true then 1 else 0) ≤ (if p x = true then 1 else 0) := by
        by_cases hqx : q x = true
        · rw [if_pos hqx, if_pos (h x List.mem_cons_self hqx)]; omega
        · rw [if_neg hqx]; omega
      omega

theorem set_true {listed : Array Bool} {k i : Nat} (hk : k < listed.size) : (listed.setIfInBounds k true).getD i false = true ↔ (i = k ∨ listed.getD i false = true) := by
  rcases Nat.lt_or_ge i listed.size with h | h
  · by_cases e : i = k
    · subst e; simp [h]
    · simp [h, e, Ne.symm e]
  · have : i ≠ k := by omega
    simp [h, this]

theorem any_all {ops : Array Oper} {pis : List PI} {ps : List POp} {M : List Nat} {st : Nat → Env × Heap} {m0 : PMap} {w0 : World} (T : Text P E n ops pis ps M call lo st) (hcall : CallerSim P L0 call) (hlo : L0 ≤ lo) (hl0 : L0 ≤ (st 0).2.length)
    (hfresh : ∀ b, (st 0).2.length ≤ b → b < (st ops.size).2.length → m0 b = none) {Q : Exit → Act → World → Prop}
    (hQ : ∀ m' a' w', Here n L0 m' (st ops.size).1 (st ops.size).2 a' w' → Trans lo m0 (st 0).2 w0 m' (st ops.size).2 w' → Q .normal a' w') :
    ∀ (fuel : Nat) (listed : Array Bool) (m : PMap) (c : Nat) (a : Act) (w : World), listed.size = ops.size → ((List.range ops.size).countP fun i => !listed.getD i false) ≤ fuel →
    AnyInv E n ops ps lo L0 st m0 w0 [] (fun i => listed.getD i false = true) m c a w → wpAny P .any ops Q fuel listed a w := by
  have fin : ∀ (listed : Array Bool) (m : PMap) (c : Nat) (a : Act) (w : World), listed.size = ops.size → (Region.ready .any ops listed = []) → AnyInv E n ops ps lo L0 st m0 w0 [] (fun i => listed.getD i false = true) m c a w → Q .normal a w := by
    intro listed m c a w hs hr I
    have all : ∀ i, i < ops.size → listed.getD i false = true := by
      intro i
      induction i using Nat.strongRecOn with
      | _ i ih =>
        intro hi
        cases hl : listed.getD i false with
        | true => rfl
        | false =>
          exfalso
          obtain ⟨o, p, pi, ho, _, _, _, hdr, _⟩ := T.at hi
          have : i ∈ Region.ready .any ops listed := by
            rw [mem_ready]
            refine ⟨?_, o, ho, fun e he hb => ?_⟩
            · have hil : i < listed.size := by omega
              simpa [hil] using hl
            · have := hdr.back e (by simpa using he) hb
              exact ih e.on this (by omega)
          rw [hr] at this
          cases this
    have hcN : c = ops.size := by
      rcases Nat.lt_or_ge c ops.size with h | h
      · exact absurd (all c h) (I.atc h).1
      · have := I.cle; omega
    subst hcN
    exact hQ m a w ⟨I.tsize, I.defs, fun t => I.tm t ops.size (Nat.le_refl _) fun i o hi _ => ⟨fun _ => lt_of_some hi, fun h => all i h⟩, I.rel⟩ I.tr
  intro fuel
  induction fuel with
  | zero =>
    intro listed m c a w hs hc I
    have hr : Region.ready .any ops listed = [] := by
      rw [List.eq_nil_iff_forall_not_mem]
      intro i hi
      have hi' := mem_ready.1 hi
      obtain ⟨h1, o, ho, _⟩ := hi'
      have hlt : i < ops.size := (Array.getElem?_eq_some_iff.1 ho).1
      have h0 : ((List.range ops.size).countP fun i => !listed.getD i false) = 0 := by omega
      rw [List.countP_eq_zero] at h0
      have := h0 i (List.mem_range.2 hlt)
      have hil : i < listed.size := by omega
      simp [hil] at this h1
      rw [h1] at this
      cases this
    exact ⟨hr, fin listed m c a w hs hr I⟩
  | succ fuel ih =>
    intro listed m c a w hs hc I
    refine ⟨fun hr => fin listed m c a w hs hr I, fun k hk => ?_⟩
    obtain ⟨h1, o, ho, hb⟩ := mem_ready.1 hk
    have hlt : k < ops.size := (Array.getElem?_eq_some_iff.1 ho).1
    have hkl : k < listed.size := by omega
    have hkf : listed.getD k false = false := by simpa [hkl] using h1
    refine any_step T hcall hlo hl0 hfresh I ho (by rw [hkf]; exact fun h => by cases h) (fun e he hbd => hb e (by simpa using he) hbd) fun m' c' a' w' I' => ih _ m' c' a' w' (by simpa using hs) ?_ ?_
    · have : ((List.range ops.size).countP fun i => !(listed.setIfInBounds k true).getD i false) < ((List.range ops.size).countP fun i => !listed.getD i false) := by
        refine countP_lt (i := k) (fun x _ hx => ?_) (List.mem_range.2 hlt) (by rw [hkf]; rfl) ?_
        · cases hlx : listed.getD x false with
          | false => rfl
          | true =>
            have := (set_true (i := x) hkl).2 (.inr hlx)
            rw [this] at hx
            cases hx
        · rw [(set_true hkl).2 (.inl rfl)]; rfl
      omega
    · have e : (fun i => (listed.setIfInBounds k true).getD i false = true) = fun i => i = k ∨ listed.getD i false = true := by
        funext i
        exact propext (set_true hkl)
      rw [e]
      exact I'

theorem Rel.drew {m : PMap} {H : Heap} {w w' : World} (h : Rel m L0 H w) (hw : w'.heap = w.heap) : Rel m L0 H w' := by
  have hc : ∀ x, w'.cell? x = w.cell? x := fun x => by unfold World.cell?; rw [hw]
  refine ⟨fun b l hb => by rw [hw]; exact h.valid b l hb, fun b l cs e p hm hb => ?_, h.inj⟩
  obtain ⟨h1, h2, h3, h4⟩ := h.row b l cs e p hm hb
  refine ⟨h1, h2, h3, fun i hi => ?_⟩
  rw [hc]
  exact h4 i hi

theorem sim_region {id : Nat} {ops : Array Oper} {draw : Bool} {pis : List PI} (hmix : P.follows .mixedOrders = true) (hcall : CallerSim P L0 call) (hext : ExtCaller call) (hp : prepRegion P E n ops draw = some pis) {ρ ρ' : Env} {H H' : Heap}
    (hv : psteps call lo pis ρ H = some (ρ', H')) {m : PMap} {a : Act} {w : World} (h : Here n L0 m ρ H a w) (hlo : L0 ≤ lo) (hlen : L0 ≤ H.length) (hf : ∀ b, H.length ≤ b → b < H'.length → m b = none) {Q : Exit → Act → World → Prop}
    (hQ : ∀ m' a' w', Here n L0 m' ρ' H' a' w' → Trans lo m H w m' H' w' → Q .normal a' w') : (Code.region id ops draw).wp P Q a w := by
  obtain ⟨ps, M, hok⟩ := prepRegion_spec hp
  obtain ⟨st, hs0, hsn, hst⟩ := trace_exists hv
  have hN : pis.length = ops.size := by rw [hok.ilen]; simp
  rw [hN] at hsn
  cases draw with
  | true =>
    have T : Text P E n ops pis ps M call lo st := ⟨hok, hext, hst⟩
    apply wp_region_any hmix
    have e0 : (st 0).1 = ρ := by rw [hs0]
    have e1 : (st 0).2 = H := by rw [hs0]
    have e2 : (st ops.size).1 = ρ' := by rw [hsn]
    have e3 : (st ops.size).2 = H' := by rw [hsn]
    obtain ⟨c, hc1, hc2, hc3, hc4⟩ := next_place (fun i => ∃ q, ps[i]? = some q ∧ clsOf E q = .write) _ 0 ops.size rfl (Nat.zero_le _)
    have hsame := T.same hc1 hc2 fun i h1 h2 q hq hw => hc3 i h1 h2 ⟨q, hq, hw⟩
    have hlenc := T.len hc1 hc2
    have hlenn := T.len (i := c) (j := ops.size) hc2 (Nat.le_refl _)
    have hgr := h.rel.grow (by rw [← e1]; exact hsame) (fun b h1 h2 => hf b h1 (by rw [← e3]; omega))
    have hnone : ∀ i, (Array.replicate ops.size false).getD i false = true → False := by
      intro i hi
      rcases Nat.lt_or_ge i ops.size with h | h <;> simp [h] at hi
    refine any_all (m0 := m) (w0 := w) T hcall hlo (by rw [e1]; exact hlen) (by rw [e1, e3]; exact hf) (by rw [e1, e2, e3]; exact hQ) ops.size _ m c a _ (by simp) (Nat.le_trans List.countP_le_length (by simp)) ?_
    refine ⟨h.tsize, h.defs, fun i o _ hi => (hnone i hi).elim, fun t j hj hw => ?_, hc2, fun i q hi hq hw => absurd ⟨q, hq, hw⟩ (hc3 i (Nat.zero_le _) hi), fun hc => ⟨fun h => hnone _ h, hc4 hc⟩, hgr.drew rfl, ?_, fun b l hb => .inl (by rw [hb]; exact fun h => by cases h)⟩
    · have e : (st j).1 t = ρ t := by
        rw [← e0]
        refine T.envSame (Nat.zero_le _) hj fun i oi _ hi2 hoi hd => ?_
        have hoi' : ops.toList[i]? = some oi := by simpa using hoi
        exact (hnone i ((hw i oi hoi' hd).2 hi2)).elim
      rw [e]
      exact h.env t
    · rw [e1]
      refine ⟨fun _ _ h => h, fun b l hb hn => (by rw [hb] at hn; cases hn), Nat.le_refl _, fun _ _ _ => rfl, rfl, rfl, rfl⟩
  | false =>
    apply wp_region
    have key : ∀ d i, ops.size - i = d → i ≤ ops.size → ∀ m1 a1 w1, Here n L0 m1 (st i).1 (st i).2 a1 w1 → L0 ≤ (st i).2.length → (∀ b, (st i).2.length ≤ b → b < H'.length → m1 b = none) →
        (∀ m' a' w', Here n L0 m' ρ' H' a' w' → Trans lo m1 (st i).2 w1 m' H' w' → Q .normal a' w') → wpOps P ops Q ((List.range ops.size).drop i) a1 w1 := by
      intro d
      induction d with
      | zero =>
        intro i hd hi m1 a1 w1 h1 _ _ hQ1
        have : i = ops.size := by omega
        subst this
        rw [List.drop_eq_nil_of_le (by simp)]
        rw [hsn] at h1 hQ1
        exact hQ1 m1 a1 w1 h1 (Trans.refl _ _ _ _)
      | succ d ih =>
        intro i hd hi m1 a1 w1 h1 hl1 hf1 hQ1
        have hlt : i < ops.size := by omega
        rw [List.drop_eq_getElem_cons (by simpa using hlt), wpOps_cons]
        have ho : ops.toList[i]? = some ops[i] := by simp [hlt]
        obtain ⟨p, pi, hp1, hp2, hok1, _, hdr⟩ := hok.each i _ ho
        have hstep := hst i pi hp2
        obtain ⟨v, hv1, hv2⟩ := pstep_spec hstep
        have hq : pi.quiet = false := (hdr rfl).1
        have hE1 := ext_pstep hext hstep
        have hE2 : Ext lo (st (i + 1)).2 H' := by
          have : ∀ d j, ops.size - j = d → j ≤ ops.size → Ext lo (st j).2 H' := by
            intro d
            induction d with
            | zero => intro j hd hj; have : j = ops.size := by omega
                      subst this; rw [hsn]; exact Ext.refl _ _
            | succ d ih =>
              intro j hd hj
              have hjl : j < pis.length := by omega
              exact (ext_pstep hext (hst j pis[j] (List.getElem?_eq_getElem hjl))).trans (ih (j + 1) (by omega) (by omega))
          exact this _ (i + 1) rfl hlt
        have hge : (List.range ops.size)[i]'(by simpa using hlt) = i := by simp
        rw [hge]
        refine sim_op (by simp [hlt]) hok1 (fun h => by rw [hq] at h; cases h) hv1 (fun t _ => h1.env t) h1.rel hlo hl1 (fun b hb1 hb2 => hf1 b hb1 (Nat.lt_of_lt_of_le hb2 hE2.len)) hcall fun m' rv w' hrv hR hT => ?_
        rw [hq] at hT
        simp only [Bool.false_eq_true, if_false] at hT
        refine ih (i + 1) (by omega) hlt m' _ w' ⟨by rw [put_size]; exact h1.tsize, by rw [put_defs]; exact h1.defs, fun t => ?_, hR⟩ (Nat.le_trans hl1 hE1.len) (hT.fresh hE1.len hf1) fun m2 a2 w2 h2 hT2 => hQ1 m2 a2 w2 h2 (Trans.trans hf1 hE1 hE2 hT hT2)
        rw [hv2, hok1.dst]
        cases hd : ops[i].dst with
        | none => exact (h1.env t).mono hT.ext
        | some d =>
          rw [put_getD (by rw [h1.tsize]; exact hok1.bound d hd)]
          show RV m' (if t = d then v else (st i).1 t) _
          by_cases e : t = d
          · rw [if_pos e, if_pos e]; exact hrv
          · rw [if_neg e, if_neg e]; exact (h1.env t).mono hT.ext
    have := key ops.size 0 (by omega) (Nat.zero_le _) m a w (by rw [hs0]; exact h) (by rw [hs0]; exact hlen) (by rw [hs0]; exact hf) (by rw [hs0]; exact hQ)
    simpa using this

end
end Go.PM
