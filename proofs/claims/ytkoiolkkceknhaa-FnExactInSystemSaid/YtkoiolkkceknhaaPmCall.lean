/- Code, functions and calls of the pure machine against the model's. -/
import Derived.Test.YtkoiolkkceknhaaPmCode
namespace Go.PM

def exOf : Ex → Exit
  | .normal => .normal
  | .exit id => .exit id
  | .ret => .ret

section
variable {P : Program} {E : Cfg} {n : Nat} {call : Caller} {lo L0 : Nat}

/-- What is shown of a piece of code. -/
def SimCode (P : Program) (n lo L0 : Nat) (c : Code) (run : Env → Heap → Option (Ex × Env × Heap)) : Prop :=
  ∀ ρ H x ρ' H', run ρ H = some (x, ρ', H') → ∀ m a w, Here n L0 m ρ H a w → L0 ≤ H.length → (∀ b, H.length ≤ b → b < H'.length → m b = none) →
    ∀ Q : Exit → Act → World → Prop, (∀ m' a' w', Here n L0 m' ρ' H' a' w' → Trans lo m H w m' H' w' → Q (exOf x) a' w') → c.wp P Q a w

theorem sim_loop {c : Code} {run : Env → Heap → Option (Ex × Env × Heap)} (hc : SimCode P n lo L0 c run) (he : ∀ ρ H x ρ' H', run ρ H = some (x, ρ', H') → Ext lo H H') (N : Nat) : SimCode P n lo L0 (.loop c) (ploop run N) := by
  intro ρ H x ρ' H' hr m a w h hl hf Q hQ
  apply wp_loop_rounds N
  have key : ∀ N ρ H, ploop run N ρ H = some (x, ρ', H') → ∀ m a w, Here n L0 m ρ H a w → L0 ≤ H.length → (∀ b, H.length ≤ b → b < H'.length → m b = none) →
      (∀ m' a' w', Here n L0 m' ρ' H' a' w' → Trans lo m H w m' H' w' → Q (exOf x) a' w') → Code.rounds P c Q N a w := by
    intro N
    induction N with
    | zero => intro ρ H h; cases h
    | succ N ih =>
      intro ρ H hr m a w h hl hf hQ
      rw [rounds_succ]
      rw [ploop] at hr
      split at hr
      · rename_i ρ1 H1 h1
        have e1 := he _ _ _ _ _ h1
        have e2 := ext_ploop he N hr
        refine hc ρ H _ ρ1 H1 h1 m a w h hl (fun b hb1 hb2 => hf b hb1 (Nat.lt_of_lt_of_le hb2 e2.len)) _ fun m1 a1 w1 hh hT => ?_
        exact ih ρ1 H1 hr m1 a1 w1 hh (Nat.le_trans hl e1.len) (hT.fresh e1.len hf) fun m2 a2 w2 h2 hT2 => hQ m2 a2 w2 h2 (Trans.trans hf e1 e2 hT hT2)
      · rename_i hne
        refine hc ρ H _ ρ' H' hr m a w h hl hf _ fun m1 a1 w1 hh hT => ?_
        have := hQ m1 a1 w1 hh hT
        cases x with
        | normal => exact absurd hr (hne ρ' H')
        | exit id => exact this
        | ret => exact this
  exact key N ρ H hr m a w h hl hf hQ

theorem sim_code (hmix : P.follows .mixedOrders = true) (hcall : CallerSim P L0 call) (hext : ExtCaller call) (hlo : L0 ≤ lo) (N : Nat) : ∀ (c : Code) (pc : PCode), prepCode P E n c = some pc → SimCode P n lo L0 c (pcode call lo N pc)
  | .skip, pc, hp => by
    cases hp
    intro ρ H x ρ' H' hr m a w h hl hf Q hQ
    cases hr
    exact wp_skip (hQ m a w h (Trans.refl _ _ _ _))
  | .region id ops draw, pc, hp => by
    rw [prepCode] at hp
    cases hpr : prepRegion P E n ops draw with
    | none => rw [hpr] at hp; cases hp
    | some pis =>
      rw [hpr] at hp
      cases hp
      intro ρ H x ρ' H' hr m a w h hl hf Q hQ
      rw [pcode] at hr
      cases hs : psteps call lo pis ρ H with
      | none => rw [hs] at hr; cases hr
      | some q =>
        obtain ⟨ρ1, H1⟩ := q
        rw [hs] at hr
        cases hr
        exact sim_region hmix hcall hext hpr hs h hlo hl hf hQ
  | .seq x y, pc, hp => by
    rw [prepCode] at hp
    split at hp
    · rename_i px py hpx hpy
      cases hp
      intro ρ H e ρ' H' hr m a w h hl hf Q hQ
      rw [pcode] at hr
      apply wp_seq
      split at hr
      · rename_i ρ1 H1 h1
        have e1 := ext_pcode hext px h1
        have e2 := ext_pcode hext py hr
        refine sim_code hmix hcall hext hlo N x px hpx ρ H _ ρ1 H1 h1 m a w h hl (fun b hb1 hb2 => hf b hb1 (Nat.lt_of_lt_of_le hb2 e2.len)) _ fun m1 a1 w1 hh hT => ?_
        exact sim_code hmix hcall hext hlo N y py hpy ρ1 H1 _ ρ' H' hr m1 a1 w1 hh (Nat.le_trans hl e1.len) (hT.fresh e1.len hf) Q fun m2 a2 w2 h2 hT2 => hQ m2 a2 w2 h2 (Trans.trans hf e1 e2 hT hT2)
      · rename_i hne
        refine sim_code hmix hcall hext hlo N x px hpx ρ H _ ρ' H' hr m a w h hl hf _ fun m1 a1 w1 hh hT => ?_
        have := hQ m1 a1 w1 hh hT
        cases e with
        | normal => exact absurd hr (hne ρ' H')
        | exit id => exact this
        | ret => exact this
    · cases hp
  | .cond o x y, pc, hp => by
    rw [prepCode] at hp
    split at hp
    · rename_i hok
      split at hp
      · rename_i px py hpx hpy
        cases hp
        intro ρ H e ρ' H' hr m a w h hl hf Q hQ
        rw [pcode] at hr
        split at hr
        · rename_i t ht
          have hrv := ev_rel (a := a) (m := m) (ρ := ρ) hok fun t _ => h.env t
          rw [ht] at hrv
          generalize hev : a.eval o = ro at hrv
          cases hrv
          refine wp_cond hev ?_
          cases t with
          | true => exact sim_code hmix hcall hext hlo N x px hpx ρ H _ ρ' H' hr m a w h hl hf Q hQ
          | false => exact sim_code hmix hcall hext hlo N y py hpy ρ H _ ρ' H' hr m a w h hl hf Q hQ
        · cases hr
      · cases hp
    · cases hp
  | .block id x, pc, hp => by
    rw [prepCode] at hp
    cases hpx : prepCode P E n x with
    | none => rw [hpx] at hp; cases hp
    | some px =>
      rw [hpx] at hp
      cases hp
      intro ρ H e ρ' H' hr m a w h hl hf Q hQ
      rw [pcode] at hr
      apply wp_block
      split at hr
      · rename_i id' ρ1 H1 h1
        split at hr
        · rename_i hid
          cases hr
          refine sim_code hmix hcall hext hlo N x px hpx ρ H _ ρ' H' h1 m a w h hl hf _ fun m1 a1 w1 hh hT => ?_
          have := hQ m1 a1 w1 hh hT
          show Exit.inBlock id Q (.exit id') a1 w1
          simp only [Exit.inBlock, if_pos hid]
          exact this
        · rename_i hid
          cases hr
          refine sim_code hmix hcall hext hlo N x px hpx ρ H _ ρ' H' h1 m a w h hl hf _ fun m1 a1 w1 hh hT => ?_
          have := hQ m1 a1 w1 hh hT
          show Exit.inBlock id Q (.exit id') a1 w1
          simp only [Exit.inBlock, if_neg hid]
          exact this
      · rename_i hne
        refine sim_code hmix hcall hext hlo N x px hpx ρ H _ ρ' H' hr m a w h hl hf _ fun m1 a1 w1 hh hT => ?_
        have := hQ m1 a1 w1 hh hT
        cases e with
        | normal => exact this
        | exit id' => exact absurd hr (hne id' ρ' H')
        | ret => exact this
  | .loop x, pc, hp => by
    rw [prepCode] at hp
    cases hpx : prepCode P E n x with
    | none => rw [hpx] at hp; cases hp
    | some px =>
      rw [hpx] at hp
      cases hp
      have hx := sim_code hmix hcall hext hlo N x px hpx
      intro ρ H e ρ' H' hr
      rw [pcode] at hr
      exact sim_loop hx (fun ρ H x ρ' H' h => ext_pcode hext px h) N ρ H e ρ' H' hr
  | .exit id, pc, hp => by
    cases hp
    intro ρ H x ρ' H' hr m a w h hl hf Q hQ
    cases hr
    exact wp_exit (hQ m a w h (Trans.refl _ _ _ _))
  | .ret, pc, hp => by
    cases hp
    intro ρ H x ρ' H' hr m a w h hl hf Q hQ
    cases hr
    exact wp_ret (hQ m a w h (Trans.refl _ _ _ _))
  | .rangeFunc .., pc, hp => by cases hp
  | .scope _, pc, hp => by cases hp
  | .label _, pc, hp => by cases hp
  | .goto _, pc, hp => by cases hp
  | .refuse _, pc, hp => by cases hp

/-! ### results -/
def prepRes (P : Program) : ResultVar → Option PRes
  | .tmp t => some (.tmp t)
  | .cell t ty => (tinfo P ty).map fun (agg, size, _, _) => .cell t agg size

def semRes (a : Act) : ResultVar → Sem Value
  | .tmp t => pure (a.tmps.getD t undef)
  | .cell x t => do loadVar t (← asAddr (a.tmps.getD x undef))

theorem res1 {m : PMap} {ρ : Env} {H : Heap} {a : Act} {w : World} (h : Here n L0 m ρ H a w) {r : ResultVar} {pr : PRes} (hp : prepRes P r = some pr) {v : Value} (hv : pres1 ρ H pr = some v) :
    ∃ rv, RV m v rv ∧ (semRes a r).run P w = .ok rv w := by
  cases r with
  | tmp t =>
    cases hp
    cases hv
    exact ⟨_, h.env t, rfl⟩
  | cell x t =>
    simp only [prepRes] at hp
    cases ht : tinfo P t with
    | none => rw [ht] at hp; cases hp
    | some q =>
      obtain ⟨agg, size, z, nb⟩ := q
      rw [ht] at hp
      cases hp
      obtain ⟨rv, h1, h2⟩ := pload_rel ht hv h.rel (h.env x)
      refine ⟨rv, h1, ?_⟩
      unfold semRes
      have hpv := h.env x
      simp only [pres1, pload] at hv
      split at hv
      · rename_i b o hb
        rw [hb] at hpv
        show (do loadVar t (← asAddr (a.tmps.getD x undef)) : Sem Value).run P w = _
        generalize a.tmps.getD x undef = rp at h2 hpv ⊢
        cases hpv
        exact h2
      · cases hv

theorem resAll {m : PMap} {ρ : Env} {H : Heap} {a : Act} {w : World} (h : Here n L0 m ρ H a w) : ∀ {rs : List ResultVar} {prs : List PRes} {vs : List Value}, rs.mapM (prepRes P) = some prs → presAll ρ H prs = some vs →
    ∃ rvs, RL m vs rvs ∧ (rs.mapM (semRes a)).run P w = .ok rvs w
  | [], prs, vs, hp, hv => by
    simp at hp
    subst hp
    cases hv
    exact ⟨[], RL.nil m, rfl⟩
  | r :: rs, prs, vs, hp, hv => by
    simp only [List.mapM_cons, Option.pure_def, Option.bind_eq_bind] at hp
    cases h1 : prepRes P r with
    | none => rw [h1] at hp; cases hp
    | some pr =>
      rw [h1] at hp
      cases h2 : rs.mapM (prepRes P) with
      | none => rw [h2] at hp; cases hp
      | some prs' =>
        rw [h2] at hp
        cases hp
        simp only [presAll] at hv
        split at hv
        · rename_i v vs' hv1 hv2
          cases hv
          obtain ⟨rv, g1, g2⟩ := res1 h h1 hv1
          obtain ⟨rvs, g3, g4⟩ := resAll h h2 hv2
          refine ⟨rv :: rvs, RL.cons g1 g3, ?_⟩
          rw [List.mapM_cons, Sem.run_bind, g2, Result.andThen_ok, Sem.run_bind, g4]
          rfl
        · cases hv

theorem results_rel {m : PMap} {ρ : Env} {H : Heap} {a : Act} {w : World} (h : Here n L0 m ρ H a w) {fn : Func} {prs : List PRes} (hp : fn.results.toList.mapM (prepRes P) = some prs) {v : Value} (hv : presult prs ρ H = some v) :
    ∃ rv, RV m v rv ∧ (results fn a.tmps).run P w = .ok rv w := by
  unfold presult at hv
  cases hall : presAll ρ H prs with
  | none => rw [hall] at hv; cases hv
  | some vs =>
    obtain ⟨rvs, h1, h2⟩ := resAll h hp hall
    rw [hall] at hv
    have hrun : ∀ rv, (if h : rvs.toArray.size = 1 then rvs.toArray[0] else .tuple rvs.toArray) = rv → (results fn a.tmps).run P w = .ok rv w := by
      intro rv hrv
      have e : results fn a.tmps = (do let vs ← fn.results.mapM (semRes a); pure (if h : vs.size = 1 then vs[0] else .tuple vs)) := by
        unfold results
        congr 2
      rw [e, Array.mapM_eq_mapM_toList, Sem.run_bind]
      have : (List.toArray <$> fn.results.toList.mapM (semRes a)).run P w = .ok rvs.toArray w := by
        rw [map_eq_pure_bind, Sem.run_bind, h2]
        rfl
      rw [this, ← hrv]
      rfl
    clear h2 hall
    rcases vs with _ | ⟨x, _ | ⟨y, xs⟩⟩
    · rcases rvs with _ | ⟨x', ys⟩
      · cases hv
        exact ⟨_, h1.toTuple, hrun _ rfl⟩
      · cases h1.1
    · rcases rvs with _ | ⟨x', _ | ⟨y', ys⟩⟩
      · cases h1.1
      · cases hv
        exact ⟨x', h1.uncons.1, hrun x' rfl⟩
      · cases h1.1
    · rcases rvs with _ | ⟨x', _ | ⟨y', ys⟩⟩
      · cases h1.1
      · cases h1.1
      · cases hv
        exact ⟨_, h1.toTuple, hrun _ (by simp)⟩

end
end Go.PM
