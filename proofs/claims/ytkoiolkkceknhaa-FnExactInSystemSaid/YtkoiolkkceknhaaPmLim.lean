/- The pure machine without fuel: what a call or a piece of code comes to, if it comes to anything; its equations. -/
import Derived.Test.YtkoiolkkceknhaaPmAll
namespace Go.PM

def CLe (c c' : Caller) : Prop := ∀ f args lo H r, c f args lo H = some r → c' f args lo H = some r

section
variable {c c' : Caller} {lo : Nat}

theorem pval_mono (h : CLe c c') {i : PI} {ρ : Env} {H : Heap} {r : Value × Heap} (hr : pval c lo i ρ H = some r) : pval c' lo i ρ H = some r := by
  unfold pval at hr ⊢
  split at hr
  · cases hr
  · exact hr
  · split at hr
    · rename_i hcf
      rw [if_pos hcf]
      split at hr
      · exact hr
      · exact h _ _ _ _ _ hr
      · cases hr
    · cases hr
theorem pstep_mono (h : CLe c c') {i : PI} {ρ : Env} {H : Heap} {r : Env × Heap} (hr : pstep c lo i ρ H = some r) : pstep c' lo i ρ H = some r := by
  unfold pstep at hr ⊢
  split at hr
  · rename_i v H' hv
    rw [pval_mono h hv]
    exact hr
  · cases hr
theorem psteps_mono (h : CLe c c') : ∀ {is : List PI} {ρ : Env} {H : Heap} {r : Env × Heap}, psteps c lo is ρ H = some r → psteps c' lo is ρ H = some r
  | [], _, _, _, hr => hr
  | i :: is, ρ, H, r, hr => by
    rw [psteps] at hr ⊢
    split at hr
    · rename_i h1
      rw [pstep_mono h h1]
      exact psteps_mono h hr
    · cases hr
theorem ploop_mono {b b' : Env → Heap → Option (Ex × Env × Heap)} (h : ∀ ρ H r, b ρ H = some r → b' ρ H = some r) : ∀ {n n' : Nat} {ρ : Env} {H : Heap} {r : Ex × Env × Heap}, n ≤ n' → ploop b n ρ H = some r → ploop b' n' ρ H = some r
  | 0, _, _, _, _, _, hr => by cases hr
  | n + 1, 0, _, _, _, hn, _ => by omega
  | n + 1, n' + 1, ρ, H, r, hn, hr => by
    rw [ploop] at hr ⊢
    split at hr
    · rename_i h1
      rw [h _ _ _ h1]
      exact ploop_mono h (by omega) hr
    · rename_i hne
      rw [h _ _ _ hr]
      split
      · rename_i ρ' H' he
        cases he
        exact absurd hr (hne _ _)
      · rfl
theorem pcode_mono (h : CLe c c') {n n' : Nat} (hn : n ≤ n') : ∀ (p : PCode) {ρ : Env} {H : Heap} {r : Ex × Env × Heap}, pcode c lo n p ρ H = some r → pcode c' lo n' p ρ H = some r
  | .skip, _, _, _, hr => hr
  | .reg ops, ρ, H, r, hr => by
    rw [pcode] at hr ⊢
    cases hs : psteps c lo ops ρ H with
    | none => rw [hs] at hr; cases hr
    | some q => rw [hs] at hr; rw [psteps_mono h hs]; exact hr
  | .seq a b, ρ, H, r, hr => by
    rw [pcode] at hr ⊢
    split at hr
    · rename_i h1
      rw [pcode_mono h hn a h1]
      exact pcode_mono h hn b hr
    · rename_i hne
      rw [pcode_mono h hn a hr]
      split
      · rename_i he; cases he; exact absurd hr (hne _ _)
      · rfl
  | .cond x a b, ρ, H, r, hr => by
    rw [pcode] at hr ⊢
    split at hr
    · split at hr
      · rename_i ht; rw [if_pos ht]; exact pcode_mono h hn a hr
      · rename_i ht; rw [if_neg ht]; exact pcode_mono h hn b hr
    · cases hr
  | .block id a, ρ, H, r, hr => by
    rw [pcode] at hr ⊢
    split at hr
    · rename_i h1
      rw [pcode_mono h hn a h1]
      exact hr
    · rename_i hne
      rw [pcode_mono h hn a hr]
      split
      · rename_i he; cases he; exact absurd hr (hne _ _ _)
      · rfl
  | .loop a, ρ, H, r, hr => by
    rw [pcode] at hr ⊢
    exact ploop_mono (fun ρ H r hr => pcode_mono h hn a hr) hn hr
  | .exit id, _, _, _, hr => hr
  | .ret, _, _, _, hr => hr

theorem pcall_step (E : Cfg) (T : Tab) : ∀ n, CLe (pcall E T n) (pcall E T (n + 1))
  | 0, _, _, _, _, _, hr => by cases hr
  | n + 1, f, args, lo, H, r, hr => by
    rw [pcall] at hr ⊢
    split at hr
    · exact hr
    · split at hr
      · cases hr
      · split at hr
        · rename_i pf _ ha
          rw [if_pos ha]
          split at hr
          · rename_i h1
            rw [pcode_mono (pcall_step E T n) (Nat.le_succ n) pf.body h1]
            exact hr
          · rename_i h1
            rw [pcode_mono (pcall_step E T n) (Nat.le_succ n) pf.body h1]
            exact hr
          · cases hr
        · cases hr
theorem pcall_mono (E : Cfg) (T : Tab) {n n' : Nat} (h : n ≤ n') : CLe (pcall E T n) (pcall E T n') := by
  induction h with
  | refl => exact fun _ _ _ _ _ h => h
  | step _ ih => exact fun f args lo H r hr => pcall_step E T _ f args lo H r (ih f args lo H r hr)
end

/-! ### without fuel -/
section
variable (E : Cfg) (T : Tab)

open Classical in
noncomputable def lim {α : Type} (run : Nat → Option α) : Option α := if h : ∃ r, ∃ n, run n = some r then some (Classical.choose h) else none
theorem lim_iff {α : Type} {run : Nat → Option α} (hm : ∀ n n' r, n ≤ n' → run n = some r → run n' = some r) {r : α} : lim run = some r ↔ ∃ n, run n = some r := by
  unfold lim
  constructor
  · intro h
    split at h
    · rename_i hx
      cases h
      exact Classical.choose_spec hx
    · cases h
  · rintro ⟨n, hn⟩
    have hx : ∃ r, ∃ n, run n = some r := ⟨r, n, hn⟩
    rw [dif_pos hx]
    obtain ⟨n', hn'⟩ := Classical.choose_spec hx
    have h1 := hm n (max n n') r (Nat.le_max_left _ _) hn
    have h2 := hm n' (max n n') _ (Nat.le_max_right _ _) hn'
    rw [h1] at h2
    injection h2 with h2
    rw [← h2]

noncomputable def call : Caller := fun f args lo H => lim fun n => pcall E T n f args lo H
noncomputable def code (lo : Nat) (c : PCode) (ρ : Env) (H : Heap) : Option (Ex × Env × Heap) := lim fun n => pcode (pcall E T n) lo n c ρ H

theorem call_iff {f : Nat} {args : List Value} {lo : Nat} {H : Heap} {r : Value × Heap} : call E T f args lo H = some r ↔ ∃ n, pcall E T n f args lo H = some r :=
  lim_iff fun _ _ r h hr => pcall_mono E T h f args lo H r hr
theorem code_iff {lo : Nat} {c : PCode} {ρ : Env} {H : Heap} {r : Ex × Env × Heap} : code E T lo c ρ H = some r ↔ ∃ n, pcode (pcall E T n) lo n c ρ H = some r :=
  lim_iff fun _ _ _ h hr => pcode_mono (pcall_mono E T h) h c hr

theorem psteps_iff {lo : Nat} : ∀ {is : List PI} {ρ : Env} {H : Heap} {r : Env × Heap}, psteps (call E T) lo is ρ H = some r ↔ ∃ n, psteps (pcall E T n) lo is ρ H = some r := by
  have le : ∀ n, CLe (pcall E T n) (call E T) := fun n f args lo H r hr => (call_iff E T).2 ⟨n, hr⟩
  have val : ∀ {i : PI} {ρ : Env} {H : Heap} {r : Value × Heap}, pval (call E T) lo i ρ H = some r → ∃ n, pval (pcall E T n) lo i ρ H = some r := by
    intro i ρ H r hr
    unfold pval at hr ⊢
    split at hr
    · cases hr
    · exact ⟨0, hr⟩
    · split at hr
      · rename_i hcf
        split at hr
        · exact ⟨0, by rw [if_pos hcf]; exact hr⟩
        · obtain ⟨n, hn⟩ := (call_iff E T).1 hr
          exact ⟨n, by rw [if_pos hcf]; exact hn⟩
        · cases hr
      · cases hr
  intro is
  induction is with
  | nil => exact fun {ρ H r} => ⟨fun h => ⟨0, h⟩, fun ⟨_, h⟩ => h⟩
  | cons i is ih =>
    intro ρ H r
    constructor
    · intro h
      rw [psteps] at h
      split at h
      · rename_i ρ1 H1 h1
        obtain ⟨v, hv, rfl⟩ := pstep_spec h1
        obtain ⟨n1, hn1⟩ := val hv
        obtain ⟨n2, hn2⟩ := ih.1 h
        refine ⟨max n1 n2, ?_⟩
        rw [psteps]
        have e : pstep (pcall E T (max n1 n2)) lo i ρ H = some (put ρ i.dst v, H1) := by
          unfold pstep
          rw [pval_mono (pcall_mono E T (Nat.le_max_left n1 n2)) hn1]
        rw [e]
        exact psteps_mono (pcall_mono E T (Nat.le_max_right n1 n2)) hn2
      · cases h
    · rintro ⟨n, h⟩
      exact psteps_mono (le n) h

theorem opt_ext {α : Type} {a b : Option α} (h : ∀ r, a = some r ↔ b = some r) : a = b := by
  cases a with
  | none =>
    cases b with
    | none => rfl
    | some y => exact ((h y).2 rfl)
  | some x => exact ((h x).1 rfl).symm

variable {lo : Nat} {ρ : Env} {H : Heap}
theorem code_skip : code E T lo .skip ρ H = some (.normal, ρ, H) := (code_iff E T).2 ⟨0, rfl⟩
theorem code_exit {id : Nat} : code E T lo (.exit id) ρ H = some (.exit id, ρ, H) := (code_iff E T).2 ⟨0, rfl⟩
theorem code_ret : code E T lo .ret ρ H = some (.ret, ρ, H) := (code_iff E T).2 ⟨0, rfl⟩
theorem code_reg {ops : List PI} : code E T lo (.reg ops) ρ H = (psteps (call E T) lo ops ρ H).map fun (ρ', H') => (.normal, ρ', H') := by
  refine opt_ext fun r => ?_
  rw [code_iff]
  constructor
  · rintro ⟨n, h⟩
    rw [pcode] at h
    cases hs : psteps (pcall E T n) lo ops ρ H with
    | none => rw [hs] at h; cases h
    | some q =>
      rw [hs] at h
      rw [(psteps_iff E T).2 ⟨n, hs⟩]
      exact h
  · intro h
    cases hs : psteps (call E T) lo ops ρ H with
    | none => rw [hs] at h; cases h
    | some q =>
      rw [hs] at h
      obtain ⟨n, hn⟩ := (psteps_iff E T).1 hs
      exact ⟨n, by rw [pcode, hn]; exact h⟩
theorem code_seq {a b : PCode} : code E T lo (.seq a b) ρ H = match code E T lo a ρ H with
    | some (.normal, ρ', H') => code E T lo b ρ' H'
    | r => r := by
  refine opt_ext fun r => ?_
  rw [code_iff]
  constructor
  · rintro ⟨n, h⟩
    rw [pcode] at h
    split at h
    · rename_i h1
      rw [(code_iff E T).2 ⟨n, h1⟩]
      exact (code_iff E T).2 ⟨n, h⟩
    · rename_i hne
      rw [(code_iff E T).2 ⟨n, h⟩]
      split
      · rename_i he; cases he; exact absurd h (hne _ _)
      · rfl
  · intro h
    split at h
    · rename_i h1
      obtain ⟨n1, h1⟩ := (code_iff E T).1 h1
      obtain ⟨n2, h2⟩ := (code_iff E T).1 h
      refine ⟨max n1 n2, ?_⟩
      rw [pcode, pcode_mono (pcall_mono E T (Nat.le_max_left n1 n2)) (Nat.le_max_left n1 n2) a h1]
      exact pcode_mono (pcall_mono E T (Nat.le_max_right n1 n2)) (Nat.le_max_right n1 n2) b h2
    · rename_i hne
      obtain ⟨n, h1⟩ := (code_iff E T).1 h
      refine ⟨n, ?_⟩
      rw [pcode, h1]
      split
      · rename_i he; cases he; exact absurd h (hne _ _)
      · rfl
theorem code_cond {x : Operand} {a b : PCode} : code E T lo (.cond x a b) ρ H = match ev ρ x with
    | .bool t => if t then code E T lo a ρ H else code E T lo b ρ H
    | _ => none := by
  refine opt_ext fun r => ?_
  rw [code_iff]
  constructor
  · rintro ⟨n, h⟩
    rw [pcode] at h
    split at h
    · rename_i t he
      rw [he]
      show (if t = true then code E T lo a ρ H else code E T lo b ρ H) = some r
      split at h
      · rename_i ht; rw [if_pos ht]; exact (code_iff E T).2 ⟨n, h⟩
      · rename_i ht; rw [if_neg ht]; exact (code_iff E T).2 ⟨n, h⟩
    · cases h
  · intro h
    split at h
    · rename_i t he
      split at h
      · rename_i ht
        obtain ⟨n, h⟩ := (code_iff E T).1 h
        refine ⟨n, ?_⟩
        rw [pcode, he]
        show (if t = true then _ else _) = _
        rw [if_pos ht]
        exact h
      · rename_i ht
        obtain ⟨n, h⟩ := (code_iff E T).1 h
        refine ⟨n, ?_⟩
        rw [pcode, he]
        show (if t = true then _ else _) = _
        rw [if_neg ht]
        exact h
    · cases h
theorem code_block {id : Nat} {a : PCode} : code E T lo (.block id a) ρ H = match code E T lo a ρ H with
    | some (.exit id', ρ', H') => if id' = id then some (.normal, ρ', H') else some (.exit id', ρ', H')
    | r => r := by
  refine opt_ext fun r => ?_
  rw [code_iff]
  constructor
  · rintro ⟨n, h⟩
    rw [pcode] at h
    split at h
    · rename_i h1
      rw [(code_iff E T).2 ⟨n, h1⟩]
      exact h
    · rename_i hne
      rw [(code_iff E T).2 ⟨n, h⟩]
      split
      · rename_i he; cases he; exact absurd h (hne _ _ _)
      · rfl
  · intro h
    split at h
    · rename_i h1
      obtain ⟨n, h1⟩ := (code_iff E T).1 h1
      exact ⟨n, by rw [pcode, h1]; exact h⟩
    · rename_i hne
      obtain ⟨n, h1⟩ := (code_iff E T).1 h
      refine ⟨n, ?_⟩
      rw [pcode, h1]
      split
      · rename_i he; cases he; exact absurd h (hne _ _ _)
      · rfl
theorem code_loop {a : PCode} : code E T lo (.loop a) ρ H = match code E T lo a ρ H with
    | some (.normal, ρ', H') => code E T lo (.loop a) ρ' H'
    | r => r := by
  refine opt_ext fun r => ?_
  rw [code_iff]
  constructor
  · rintro ⟨n, h⟩
    rw [pcode] at h
    cases n with
    | zero => cases h
    | succ n =>
      rw [ploop] at h
      split at h
      · rename_i h1
        rw [(code_iff E T).2 ⟨n + 1, h1⟩]
        refine (code_iff E T).2 ⟨n + 1, ?_⟩
        rw [pcode]
        exact ploop_mono (fun _ _ _ h => h) (Nat.le_succ n) h
      · rename_i hne
        rw [(code_iff E T).2 ⟨n + 1, h⟩]
        split
        · rename_i he; cases he; exact absurd h (hne _ _)
        · rfl
  · intro h
    split at h
    · rename_i h1
      obtain ⟨n1, h1⟩ := (code_iff E T).1 h1
      obtain ⟨n2, h2⟩ := (code_iff E T).1 h
      refine ⟨max n1 n2 + 1, ?_⟩
      have g1 := pcode_mono (pcall_mono E T (show n1 ≤ max n1 n2 + 1 by omega)) (show n1 ≤ max n1 n2 + 1 by omega) a h1
      rw [pcode, ploop, g1]
      rw [pcode] at h2
      exact ploop_mono (fun _ _ _ h => pcode_mono (pcall_mono E T (show n2 ≤ max n1 n2 + 1 by omega)) (show n2 ≤ max n1 n2 + 1 by omega) a h) (show n2 ≤ max n1 n2 by omega) h2
    · rename_i hne
      obtain ⟨n, h1⟩ := (code_iff E T).1 h
      refine ⟨n + 1, ?_⟩
      rw [pcode, ploop, pcode_mono (pcall_step E T n) (Nat.le_succ n) a h1]
      split
      · rename_i he; cases he; exact absurd h (hne _ _)
      · rfl

/-- A function's call, by its body. -/
noncomputable def runF (lo : Nat) (pf : PFunc) (args : List Value) (H : Heap) : Option (Value × Heap) :=
  if args.length ≤ pf.ntmps then
    match code E T lo pf.body (penv args) H with
    | some (.normal, ρ, H') | some (.ret, ρ, H') => (presult pf.res ρ H').map (·, H')
    | _ => none
  else none

theorem call_prim {f : Nat} {p : List Value → Heap → Option Value} (h : E.prim f = some p) {args : List Value} : call E T f args lo H = (p args H).map (·, H) := by
  refine opt_ext fun r => ?_
  rw [call_iff]
  constructor
  · rintro ⟨n, hr⟩
    cases n with
    | zero => cases hr
    | succ n => rw [pcall, h] at hr; exact hr
  · intro hr
    exact ⟨1, by rw [pcall, h]; exact hr⟩
theorem call_eq {f : Nat} {pf : PFunc} (hp : E.prim f = none) (h : T f = some pf) {args : List Value} : call E T f args lo H = runF E T lo pf args H := by
  refine opt_ext fun r => ?_
  rw [call_iff]
  unfold runF
  constructor
  · rintro ⟨n, hr⟩
    cases n with
    | zero => cases hr
    | succ n =>
      rw [pcall, hp, h] at hr
      simp only at hr
      split at hr
      · rename_i ha
        rw [if_pos ha]
        split at hr
        · rename_i h1
          rw [(code_iff E T).2 ⟨n, h1⟩]
          exact hr
        · rename_i h1
          rw [(code_iff E T).2 ⟨n, h1⟩]
          exact hr
        · cases hr
      · cases hr
  · intro hr
    split at hr
    · rename_i ha
      split at hr
      · rename_i h1
        obtain ⟨n, h1⟩ := (code_iff E T).1 h1
        exact ⟨n + 1, by rw [pcall, hp, h]; simp only; rw [if_pos ha, h1]; exact hr⟩
      · rename_i h1
        obtain ⟨n, h1⟩ := (code_iff E T).1 h1
        exact ⟨n + 1, by rw [pcall, hp, h]; simp only; rw [if_pos ha, h1]; exact hr⟩
      · cases hr
    · cases hr

end
end Go.PM
