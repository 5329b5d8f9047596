/- Texts of a claim, in one: part 3. -/
import Derived.Lib.ItoaNum
import Derived.Lib.Join
import Derived.Lib.BitFns
import Derived.Lib.Repeat
import Derived.Lib.Bytealg
import Derived.Lib.ParseIntB
import Derived.Test.YtbgfeiagaieljaaGreatDoorChecked
import Derived.Laws.BitsLemmas
import Derived.Shelf.Strings.OnBuilder
import Derived.Shelf.Strings.Repeat
import Derived.Shelf.Small.Bits
import Derived.Shelf.Strconv.Itoa1
import Derived.Shelf.Strconv.Itoa2
import Derived.Shelf.LaysM
import Derived.Shelf.Strings.Search2
import Derived.Shelf.Pu.ParseUintPublic10
import Derived.KernelRfl
import Derived.Test.YtbgfeiagaieljaaGreatDoorProg
import Derived.Lib.Walk
import Derived.Lib.ItoaMem
import Derived.WalkKit
import Derived.BigCall
import Derived.BigGuard
import Derived.Below
import Derived.Shelf.Strings.Search2
import Derived.Shelf.Pu.ParseUintPublic10
import Derived.Shelf.Strings.OnBuilder
import Derived.Shelf.Strings.Repeat
import Derived.Shelf.Small.Bits
import Derived.ProofKit
import Derived.OpenShut
import Derived.ShutString
import Derived.ChangeOld
import Derived.Carry
import Derived.SizedLaws
import Derived.Test.YtbgfeiagaieljaaGreatDoorRows
import Derived.Test.YtbgfeiagaieljaaGreatDoorKFb
/- Code, functions and calls of the pure machine against the model's. -/
set_option linter.unusedSimpArgs false
set_option linter.unusedVariables false
namespace Go.PM
def exOf : Ex → Exit
  | .normal => .normal
  | .exit id => .exit id
  | .ret => .ret
section
variable {P : Program} {E : Cfg} {n : Nat} {call : Caller} {lo L0 : Nat}
def SimCode (P : Program) (n lo L0 : Nat) (c : Code) (run : Env → Heap → Option (Ex × Env × Heap)) : Prop :=
  ∀ ρ H x ρ' H', run ρ H = some (x, ρ', H') → ∀ m a w, Here n L0 m ρ H a w → L0 ≤ H.length → (∀ b, H.length ≤ b → b < H'.length → m b = none) →
    ∀ Q : Exit → Act → World → Prop, (∀ m' a' w', Here n L0 m' ρ' H' a' w' → Trans lo m H w m' H' w' → Q (exOf x) a' w') → c.wp P Q a w
theorem sim_loop {c : Code} {run : Env → Heap → Option (Ex × Env × Heap)} (hc : SimCode P n lo L0 c run) (he : ∀ ρ H x ρ' H', run ρ H = some (x, ρ', H') → Ext lo H H') (N : Nat) : SimCode P n lo L0 (.loop c) (ploop run N) := by
  intro ρ H x ρ' H' hr m a w h hl hf Q hQ
  apply wp_loop_rounds N
  have key : ∀ N ρ H, ploop run N ρ H = some (x, ρ', H') → ∀ m a w, Here n L0 m ρ H a w → L0 ≤ H.length → (∀ b, H.length ≤ b → b < H'.length → m b = none) →
      (∀ m' a' w', Here n L0 m' ρ' H' a' w' → Trans lo m H w m' H' w' → Q (exOf x) a' w') → Code.rounds P c Q N a w := by
    intro N
    induction N with
    | zero => intro ρ H h; cases h
    | succ N ih =>
      intro ρ H hr m a w h hl hf hQ
      rw [rounds_succ]
      rw [ploop] at hr
      split at hr
      · rename_i ρ1 H1 h1
        have e1 := he _ _ _ _ _ h1
        have e2 := ext_ploop he N hr
        refine hc ρ H _ ρ1 H1 h1 m a w h hl (fun b hb1 hb2 => hf b hb1 (Nat.lt_of_lt_of_le hb2 e2.len)) _ fun m1 a1 w1 hh hT => ?_
        exact ih ρ1 H1 hr m1 a1 w1 hh (Nat.le_trans hl e1.len) (hT.fresh e1.len hf) fun m2 a2 w2 h2 hT2 => hQ m2 a2 w2 h2 (Trans.trans hf e1 e2 hT hT2)
      · rename_i hne
        refine hc ρ H _ ρ' H' hr m a w h hl hf _ fun m1 a1 w1 hh hT => ?_
        have := hQ m1 a1 w1 hh hT
        cases x with
        | normal => exact absurd hr (hne ρ' H')
        | exit id => exact this
        | ret => exact this
  exact key N ρ H hr m a w h hl hf hQ
theorem sim_code (hmix : P.follows .mixedOrders = true) (hcall : CallerSim P L0 call) (hext : ExtCaller call) (hlo : L0 ≤ lo) (N : Nat) : ∀ (c : Code) (pc : PCode), prepCode P E n c = some pc → SimCode P n lo L0 c (pcode call lo N pc)
  | .skip, pc, hp => by
    cases hp
    intro ρ H x ρ' H' hr m a w h hl hf Q hQ
    cases hr
    exact wp_skip (hQ m a w h (Trans.refl _ _ _ _))
  | .region id ops draw, pc, hp => by
    rw [prepCode] at hp
    cases hpr : prepRegion P E n ops draw with
    | none => rw [hpr] at hp; cases hp
    | some pis =>
      rw [hpr] at hp
      cases hp
      intro ρ H x ρ' H' hr m a w h hl hf Q hQ
      rw [pcode] at hr
      cases hs : psteps call lo pis ρ H with
      | none => rw [hs] at hr; cases hr
      | some q =>
        obtain ⟨ρ1, H1⟩ := q
        rw [hs] at hr
        cases hr
        exact sim_region hmix hcall hext hpr hs h hlo hl hf hQ
  | .seq x y, pc, hp => by
    rw [prepCode] at hp
    split at hp
    · rename_i px py hpx hpy
      cases hp
      intro ρ H e ρ' H' hr m a w h hl hf Q hQ
      rw [pcode] at hr
      apply wp_seq
      split at hr
      · rename_i ρ1 H1 h1
        have e1 := ext_pcode hext px h1
        have e2 := ext_pcode hext py hr
        refine sim_code hmix hcall hext hlo N x px hpx ρ H _ ρ1 H1 h1 m a w h hl (fun b hb1 hb2 => hf b hb1 (Nat.lt_of_lt_of_le hb2 e2.len)) _ fun m1 a1 w1 hh hT => ?_
        exact sim_code hmix hcall hext hlo N y py hpy ρ1 H1 _ ρ' H' hr m1 a1 w1 hh (Nat.le_trans hl e1.len) (hT.fresh e1.len hf) Q fun m2 a2 w2 h2 hT2 => hQ m2 a2 w2 h2 (Trans.trans hf e1 e2 hT hT2)
      · rename_i hne
        refine sim_code hmix hcall hext hlo N x px hpx ρ H _ ρ' H' hr m a w h hl hf _ fun m1 a1 w1 hh hT => ?_
        have := hQ m1 a1 w1 hh hT
        cases e with
        | normal => exact absurd hr (hne ρ' H')
        | exit id => exact this
        | ret => exact this
    · cases hp
  | .cond o x y, pc, hp => by
    rw [prepCode] at hp
    split at hp
    · rename_i hok
      split at hp
      · rename_i px py hpx hpy
        cases hp
        intro ρ H e ρ' H' hr m a w h hl hf Q hQ
        rw [pcode] at hr
        split at hr
        · rename_i t ht
          have hrv := ev_rel (a := a) (m := m) (ρ := ρ) hok fun t _ => h.env t
          rw [ht] at hrv
          generalize hev : a.eval o = ro at hrv
          cases hrv
          refine wp_cond hev ?_
          cases t with
          | true => exact sim_code hmix hcall hext hlo N x px hpx ρ H _ ρ' H' hr m a w h hl hf Q hQ
          | false => exact sim_code hmix hcall hext hlo N y py hpy ρ H _ ρ' H' hr m a w h hl hf Q hQ
        · cases hr
      · cases hp
    · cases hp
  | .block id x, pc, hp => by
    rw [prepCode] at hp
    cases hpx : prepCode P E n x with
    | none => rw [hpx] at hp; cases hp
    | some px =>
      rw [hpx] at hp
      cases hp
      intro ρ H e ρ' H' hr m a w h hl hf Q hQ
      rw [pcode] at hr
      apply wp_block
      split at hr
      · rename_i id' ρ1 H1 h1
        split at hr
        · rename_i hid
          cases hr
          refine sim_code hmix hcall hext hlo N x px hpx ρ H _ ρ' H' h1 m a w h hl hf _ fun m1 a1 w1 hh hT => ?_
          have := hQ m1 a1 w1 hh hT
          show Exit.inBlock id Q (.exit id') a1 w1
          simp only [Exit.inBlock, if_pos hid]
          exact this
        · rename_i hid
          cases hr
          refine sim_code hmix hcall hext hlo N x px hpx ρ H _ ρ' H' h1 m a w h hl hf _ fun m1 a1 w1 hh hT => ?_
          have := hQ m1 a1 w1 hh hT
          show Exit.inBlock id Q (.exit id') a1 w1
          simp only [Exit.inBlock, if_neg hid]
          exact this
      · rename_i hne
        refine sim_code hmix hcall hext hlo N x px hpx ρ H _ ρ' H' hr m a w h hl hf _ fun m1 a1 w1 hh hT => ?_
        have := hQ m1 a1 w1 hh hT
        cases e with
        | normal => exact this
        | exit id' => exact absurd hr (hne id' ρ' H')
        | ret => exact this
  | .loop x, pc, hp => by
    rw [prepCode] at hp
    cases hpx : prepCode P E n x with
    | none => rw [hpx] at hp; cases hp
    | some px =>
      rw [hpx] at hp
      cases hp
      have hx := sim_code hmix hcall hext hlo N x px hpx
      intro ρ H e ρ' H' hr
      rw [pcode] at hr
      exact sim_loop hx (fun ρ H x ρ' H' h => ext_pcode hext px h) N ρ H e ρ' H' hr
  | .exit id, pc, hp => by
    cases hp
    intro ρ H x ρ' H' hr m a w h hl hf Q hQ
    cases hr
    exact wp_exit (hQ m a w h (Trans.refl _ _ _ _))
  | .ret, pc, hp => by
    cases hp
    intro ρ H x ρ' H' hr m a w h hl hf Q hQ
    cases hr
    exact wp_ret (hQ m a w h (Trans.refl _ _ _ _))
  | .rangeFunc .., pc, hp => by cases hp
  | .scope _, pc, hp => by cases hp
  | .label _, pc, hp => by cases hp
  | .goto _, pc, hp => by cases hp
  | .refuse _, pc, hp => by cases hp
def prepRes (P : Program) : ResultVar → Option PRes
  | .tmp t => some (.tmp t)
  | .cell t ty => (tinfo P ty).map fun (agg, size, _, _) => .cell t agg size
def semRes (a : Act) : ResultVar → Sem Value
  | .tmp t => pure (a.tmps.getD t undef)
  | .cell x t => do loadVar t (← asAddr (a.tmps.getD x undef))
theorem res1 {m : PMap} {ρ : Env} {H : Heap} {a : Act} {w : World} (h : Here n L0 m ρ H a w) {r : ResultVar} {pr : PRes} (hp : prepRes P r = some pr) {v : Value} (hv : pres1 ρ H pr = some v) :
    ∃ rv, RV m v rv ∧ (semRes a r).run P w = .ok rv w := by
  cases r with
  | tmp t =>
    cases hp
    cases hv
    exact ⟨_, h.env t, rfl⟩
  | cell x t =>
    simp only [prepRes] at hp
    cases ht : tinfo P t with
    | none => rw [ht] at hp; cases hp
    | some q =>
      obtain ⟨agg, size, z, nb⟩ := q
      rw [ht] at hp
      cases hp
      obtain ⟨rv, h1, h2⟩ := pload_rel ht hv h.rel (h.env x)
      refine ⟨rv, h1, ?_⟩
      unfold semRes
      have hpv := h.env x
      simp only [pres1, pload] at hv
      split at hv
      · rename_i b o hb
        rw [hb] at hpv
        show (do loadVar t (← asAddr (a.tmps.getD x undef)) : Sem Value).run P w = _
        generalize a.tmps.getD x undef = rp at h2 hpv ⊢
        cases hpv
        exact h2
      · cases hv
theorem resAll {m : PMap} {ρ : Env} {H : Heap} {a : Act} {w : World} (h : Here n L0 m ρ H a w) : ∀ {rs : List ResultVar} {prs : List PRes} {vs : List Value}, rs.mapM (prepRes P) = some prs → presAll ρ H prs = some vs →
    ∃ rvs, RL m vs rvs ∧ (rs.mapM (semRes a)).run P w = .ok rvs w
  | [], prs, vs, hp, hv => by
    simp at hp
    subst hp
    cases hv
    exact ⟨[], RL.nil m, rfl⟩
  | r :: rs, prs, vs, hp, hv => by
    simp only [List.mapM_cons, Option.pure_def, Option.bind_eq_bind] at hp
    cases h1 : prepRes P r with
    | none => rw [h1] at hp; cases hp
    | some pr =>
      rw [h1] at hp
      cases h2 : rs.mapM (prepRes P) with
      | none => rw [h2] at hp; cases hp
      | some prs' =>
        rw [h2] at hp
        cases hp
        simp only [presAll] at hv
        split at hv
        · rename_i v vs' hv1 hv2
          cases hv
          obtain ⟨rv, g1, g2⟩ := res1 h h1 hv1
          obtain ⟨rvs, g3, g4⟩ := resAll h h2 hv2
          refine ⟨rv :: rvs, RL.cons g1 g3, ?_⟩
          rw [List.mapM_cons, Sem.run_bind, g2, Result.andThen_ok, Sem.run_bind, g4]
          rfl
        · cases hv
theorem results_rel {m : PMap} {ρ : Env} {H : Heap} {a : Act} {w : World} (h : Here n L0 m ρ H a w) {fn : Func} {prs : List PRes} (hp : fn.results.toList.mapM (prepRes P) = some prs) {v : Value} (hv : presult prs ρ H = some v) :
    ∃ rv, RV m v rv ∧ (results fn a.tmps).run P w = .ok rv w := by
  unfold presult at hv
  cases hall : presAll ρ H prs with
  | none => rw [hall] at hv; cases hv
  | some vs =>
    obtain ⟨rvs, h1, h2⟩ := resAll h hp hall
    rw [hall] at hv
    have hrun : ∀ rv, (if h : rvs.toArray.size = 1 then rvs.toArray[0] else .tuple rvs.toArray) = rv → (results fn a.tmps).run P w = .ok rv w := by
      intro rv hrv
      have e : results fn a.tmps = (do let vs ← fn.results.mapM (semRes a); pure (if h : vs.size = 1 then vs[0] else .tuple vs)) := by
        unfold results
        congr 2
      rw [e, Array.mapM_eq_mapM_toList, Sem.run_bind]
      have : (List.toArray <$> fn.results.toList.mapM (semRes a)).run P w = .ok rvs.toArray w := by
        rw [map_eq_pure_bind, Sem.run_bind, h2]
        rfl
      rw [this, ← hrv]
      rfl
    clear h2 hall
    rcases vs with _ | ⟨x, _ | ⟨y, xs⟩⟩
    · rcases rvs with _ | ⟨x', ys⟩
      · cases hv
        exact ⟨_, h1.toTuple, hrun _ rfl⟩
      · cases h1.1
    · rcases rvs with _ | ⟨x', _ | ⟨y', ys⟩⟩
      · cases h1.1
      · cases hv
        exact ⟨x', h1.uncons.1, hrun x' rfl⟩
      · cases h1.1
    · rcases rvs with _ | ⟨x', _ | ⟨y', ys⟩⟩
      · cases h1.1
      · cases h1.1
      · cases hv
        exact ⟨_, h1.toTuple, hrun _ (by simp)⟩
end
end Go.PM
/- Every call of the pure machine that comes to an end is a call of the model. -/
namespace Go.PM
def PrimOk (P : Program) (E : Cfg) (L0 : Nat) : Prop :=
  ∀ f p, E.prim f = some p → CallOk P f ∧ ∀ args H v, p args H = some v → ∀ m w rargs, Rel m L0 H w → RL m args rargs →
    Calls P f rargs.toArray w fun e w' => ∃ rv, e = .returned rv ∧ RV m v rv ∧ w.heap.size ≤ w'.heap.size ∧ (∀ rb, rb < w.heap.size → w'.heap[rb]? = w.heap[rb]?) ∧ w'.os = w.os ∧ w'.output = w.output ∧ w'.tape = w.tape
theorem Rel.more {m : PMap} {L0 : Nat} {H : Heap} {w w' : World} (h : Rel m L0 H w) (hk : ∀ rb, rb < w.heap.size → w'.heap[rb]? = w.heap[rb]?) : Rel m L0 H w' := by
  have hv : ∀ b l, m b = some l → l.rb < w.heap.size := fun b l hb => by
    obtain ⟨arr, e, fz, h1, _⟩ := h.valid b l hb
    exact (Array.getElem?_eq_some_iff.1 h1).1
  refine ⟨fun b l hb => by rw [hk _ (hv b l hb)]; exact h.valid b l hb, fun b l cs e p hm hb => ?_, h.inj, fun x hx => ⟨?_, (h.glob x hx).2⟩⟩
  · obtain ⟨h1, h2, h3, h4⟩ := h.row b l cs e p hm hb
    refine ⟨h1, h2, h3, fun i hi => ?_⟩
    obtain ⟨rv, g1, g2⟩ := h4 i hi
    refine ⟨rv, ?_, g2⟩
    rw [← g1]
    unfold World.cell?
    simp only [hk _ (hv b l hm)]
  · obtain ⟨e, fz, g1⟩ := (h.glob x hx).1
    exact ⟨e, fz, by rw [hk _ (Array.getElem?_eq_some_iff.1 g1).1]; exact g1⟩
theorem tab_spec {P : Program} {E : Cfg} {f : Nat} {pf : PFunc} (h : tabOf P E f = some pf) : ∃ fn c, P.funcs[f]? = some fn ∧ fn.body = some c ∧ (fn.name == "runtime.NumGoroutine") = false ∧ fn.results.toList.mapM (prepRes P) = some pf.res ∧ prepCode P E fn.ntmps c = some pf.body ∧ pf.ntmps = fn.ntmps := by
  unfold tabOf at h
  cases hf : P.funcs[f]? with
  | none => rw [hf] at h; cases h
  | some fn =>
    rw [hf] at h
    have h' : prepFunc P E fn = some pf := h
    unfold prepFunc at h'
    cases hb : fn.body with
    | none => rw [hb] at h'; cases h'
    | some c =>
      rw [hb] at h'
      simp only at h'
      split at h'
      · cases h'
      · rename_i hname
        split at h'
        · cases h'
        · rename_i res hres
          cases hc : prepCode P E fn.ntmps c with
          | none => rw [hc] at h'; cases h'
          | some body =>
            rw [hc] at h'
            cases h'
            refine ⟨fn, c, rfl, hb, by simpa using hname, ?_, hc, rfl⟩
            have e : (fun (r : ResultVar) => match r with
              | .tmp t => some (PRes.tmp t)
              | .cell t ty => (tinfo P ty).map fun (agg, size, _, _) => .cell t agg size) = prepRes P := by
              funext r
              cases r <;> rfl
            rw [← e]
            exact hres
theorem callerSim {P : Program} {E : Cfg} {T : Tab} {L0 : Nat} (hmix : P.follows .mixedOrders = true) (hprim : PrimOk P E L0) (hT : ∀ f pf, T f = some pf → tabOf P E f = some pf) : ∀ n, CallerSim P L0 (pcall E T n)
  | 0 => fun f args lo H v H' h => by cases h
  | n + 1 => fun f args lo H v H' h m w rargs hR hlo hlen hra hf => by
    have hext := ext_pcall E T n
    rw [pcall] at h
    split at h
    · rename_i p hp
      obtain ⟨hco, hlaw⟩ := hprim f p hp
      refine ⟨hco, ?_⟩
      cases hpv : p args H with
      | none => rw [hpv] at h; cases h
      | some u =>
        rw [hpv] at h
        cases h
        refine (hlaw args H v hpv m w rargs hR hra).mono ?_
        rintro e w' ⟨rv, rfl, h1, h2, h3, h4⟩
        exact ⟨m, rv, rfl, h1, hR.more h3, fun _ _ h => h, fun b l hb hn => (by rw [hb] at hn; cases hn), h2, fun rb hrb _ => h3 rb hrb, h4⟩
    · split at h
      · cases h
      · rename_i pf hpf
        obtain ⟨fn, c, h1, h2, h3, h4, h5, h6⟩ := tab_spec (hT _ _ hpf)
        split at h
        case isFalse => cases h
        rename_i hargs
        refine ⟨⟨fn, h1, h3, by rw [h2]; rfl⟩, calls_of_wp h1 h2 ?_⟩
        have hsz : rargs.toArray.size ≤ fn.ntmps := by
          have := hra.1
          simp; omega
        have hH : Here fn.ntmps L0 m (penv args) H { tmps := rargs.toArray ++ Array.replicate (fn.ntmps - rargs.toArray.size) undef, defers := [] } w := by
          refine ⟨by simp at hsz ⊢; omega, rfl, fun t => ?_, hR⟩
          rcases Nat.lt_or_ge t args.length with ht | ht
          · have h7 := hra.2 t ht
            have ht' : t < rargs.length := by rw [← hra.1]; exact ht
            have e : (rargs.toArray ++ Array.replicate (fn.ntmps - rargs.toArray.size) undef).getD t undef = rargs.getD t undef := by
              rw [Array.getD_eq_getD_getElem?, Array.getElem?_append_left (by simpa using ht')]
              simp
            show RV m (args.getD t undef) _
            rw [e]
            exact h7
          · have e1 : args.getD t undef = undef := by simp [List.getD_eq_getElem?_getD, List.getElem?_eq_none ht]
            have ht' : rargs.length ≤ t := by rw [← hra.1]; exact ht
            have e2 : (rargs.toArray ++ Array.replicate (fn.ntmps - rargs.toArray.size) undef).getD t undef = undef := by
              rw [Array.getD_eq_getD_getElem?, Array.getElem?_append_right (by simpa using ht')]
              rw [Array.getElem?_replicate]
              split <;> rfl
            show RV m (args.getD t undef) _
            rw [e1, e2]
            exact RV.undef m
        split at h
        · rename_i ρ1 H1 hrun
          cases hr : presult pf.res ρ1 H1 with
          | none => rw [hr] at h; cases h
          | some u =>
            rw [hr] at h
            cases h
            refine sim_code hmix (callerSim hmix hprim hT n) hext hlo n c pf.body h5 _ _ _ _ _ hrun m _ w hH hlen hf _ fun m' a' w' hh hTr => ?_
            obtain ⟨rv, g1, g2⟩ := results_rel hh h4 hr
            exact ⟨hh.defs, rv, g2, m', rv, rfl, g1, hh.rel, hTr⟩
        · rename_i ρ1 H1 hrun
          cases hr : presult pf.res ρ1 H1 with
          | none => rw [hr] at h; cases h
          | some u =>
            rw [hr] at h
            cases h
            refine sim_code hmix (callerSim hmix hprim hT n) hext hlo n c pf.body h5 _ _ _ _ _ hrun m _ w hH hlen hf _ fun m' a' w' hh hTr => ?_
            obtain ⟨rv, g1, g2⟩ := results_rel hh h4 hr
            exact ⟨hh.defs, rv, g2, m', rv, rfl, g1, hh.rel, hTr⟩
        · cases h
end Go.PM
/- The pure machine without fuel: what a call or a piece of code comes to, if it comes to anything; its equations. -/
namespace Go.PM
def CLe (c c' : Caller) : Prop := ∀ f args lo H r, c f args lo H = some r → c' f args lo H = some r
section
variable {c c' : Caller} {lo : Nat}
theorem pval_mono (h : CLe c c') {i : PI} {ρ : Env} {H : Heap} {r : Value × Heap} (hr : pval c lo i ρ H = some r) : pval c' lo i ρ H = some r := by
  unfold pval at hr ⊢
  split at hr
  · cases hr
  · exact hr
  · split at hr
    · rename_i hcf
      rw [if_pos hcf]
      split at hr
      · exact hr
      · exact h _ _ _ _ _ hr
      · cases hr
    · cases hr
theorem pstep_mono (h : CLe c c') {i : PI} {ρ : Env} {H : Heap} {r : Env × Heap} (hr : pstep c lo i ρ H = some r) : pstep c' lo i ρ H = some r := by
  unfold pstep at hr ⊢
  split at hr
  · rename_i v H' hv
    rw [pval_mono h hv]
    exact hr
  · cases hr
theorem psteps_mono (h : CLe c c') : ∀ {is : List PI} {ρ : Env} {H : Heap} {r : Env × Heap}, psteps c lo is ρ H = some r → psteps c' lo is ρ H = some r
  | [], _, _, _, hr => hr
  | i :: is, ρ, H, r, hr => by
    rw [psteps] at hr ⊢
    split at hr
    · rename_i h1
      rw [pstep_mono h h1]
      exact psteps_mono h hr
    · cases hr
theorem ploop_mono {b b' : Env → Heap → Option (Ex × Env × Heap)} (h : ∀ ρ H r, b ρ H = some r → b' ρ H = some r) : ∀ {n n' : Nat} {ρ : Env} {H : Heap} {r : Ex × Env × Heap}, n ≤ n' → ploop b n ρ H = some r → ploop b' n' ρ H = some r
  | 0, _, _, _, _, _, hr => by cases hr
  | n + 1, 0, _, _, _, hn, _ => by omega
  | n + 1, n' + 1, ρ, H, r, hn, hr => by
    rw [ploop] at hr ⊢
    split at hr
    · rename_i h1
      rw [h _ _ _ h1]
      exact ploop_mono h (by omega) hr
    · rename_i hne
      rw [h _ _ _ hr]
      split
      · rename_i ρ' H' he
        cases he
        exact absurd hr (hne _ _)
      · rfl
theorem pcode_mono (h : CLe c c') {n n' : Nat} (hn : n ≤ n') : ∀ (p : PCode) {ρ : Env} {H : Heap} {r : Ex × Env × Heap}, pcode c lo n p ρ H = some r → pcode c' lo n' p ρ H = some r
  | .skip, _, _, _, hr => hr
  | .reg ops, ρ, H, r, hr => by
    rw [pcode] at hr ⊢
    cases hs : psteps c lo ops ρ H with
    | none => rw [hs] at hr; cases hr
    | some q => rw [hs] at hr; rw [psteps_mono h hs]; exact hr
  | .seq a b, ρ, H, r, hr => by
    rw [pcode] at hr ⊢
    split at hr
    · rename_i h1
      rw [pcode_mono h hn a h1]
      exact pcode_mono h hn b hr
    · rename_i hne
      rw [pcode_mono h hn a hr]
      split
      · rename_i he; cases he; exact absurd hr (hne _ _)
      · rfl
  | .cond x a b, ρ, H, r, hr => by
    rw [pcode] at hr ⊢
    split at hr
    · split at hr
      · rename_i ht; rw [if_pos ht]; exact pcode_mono h hn a hr
      · rename_i ht; rw [if_neg ht]; exact pcode_mono h hn b hr
    · cases hr
  | .block id a, ρ, H, r, hr => by
    rw [pcode] at hr ⊢
    split at hr
    · rename_i h1
      rw [pcode_mono h hn a h1]
      exact hr
    · rename_i hne
      rw [pcode_mono h hn a hr]
      split
      · rename_i he; cases he; exact absurd hr (hne _ _ _)
      · rfl
  | .loop a, ρ, H, r, hr => by
    rw [pcode] at hr ⊢
    exact ploop_mono (fun ρ H r hr => pcode_mono h hn a hr) hn hr
  | .exit id, _, _, _, hr => hr
  | .ret, _, _, _, hr => hr
theorem pcall_step (E : Cfg) (T : Tab) : ∀ n, CLe (pcall E T n) (pcall E T (n + 1))
  | 0, _, _, _, _, _, hr => by cases hr
  | n + 1, f, args, lo, H, r, hr => by
    rw [pcall] at hr ⊢
    split at hr
    · exact hr
    · split at hr
      · cases hr
      · split at hr
        · rename_i pf _ ha
          rw [if_pos ha]
          split at hr
          · rename_i h1
            rw [pcode_mono (pcall_step E T n) (Nat.le_succ n) pf.body h1]
            exact hr
          · rename_i h1
            rw [pcode_mono (pcall_step E T n) (Nat.le_succ n) pf.body h1]
            exact hr
          · cases hr
        · cases hr
theorem pcall_mono (E : Cfg) (T : Tab) {n n' : Nat} (h : n ≤ n') : CLe (pcall E T n) (pcall E T n') := by
  induction h with
  | refl => exact fun _ _ _ _ _ h => h
  | step _ ih => exact fun f args lo H r hr => pcall_step E T _ f args lo H r (ih f args lo H r hr)
end
section
variable (E : Cfg) (T : Tab)
open Classical in
noncomputable def lim {α : Type} (run : Nat → Option α) : Option α := if h : ∃ r, ∃ n, run n = some r then some (Classical.choose h) else none
theorem lim_iff {α : Type} {run : Nat → Option α} (hm : ∀ n n' r, n ≤ n' → run n = some r → run n' = some r) {r : α} : lim run = some r ↔ ∃ n, run n = some r := by
  unfold lim
  constructor
  · intro h
    split at h
    · rename_i hx
      cases h
      exact Classical.choose_spec hx
    · cases h
  · rintro ⟨n, hn⟩
    have hx : ∃ r, ∃ n, run n = some r := ⟨r, n, hn⟩
    rw [dif_pos hx]
    obtain ⟨n', hn'⟩ := Classical.choose_spec hx
    have h1 := hm n (max n n') r (Nat.le_max_left _ _) hn
    have h2 := hm n' (max n n') _ (Nat.le_max_right _ _) hn'
    rw [h1] at h2
    injection h2 with h2
    rw [← h2]
noncomputable def call : Caller := fun f args lo H => lim fun n => pcall E T n f args lo H
noncomputable def code (lo : Nat) (c : PCode) (ρ : Env) (H : Heap) : Option (Ex × Env × Heap) := lim fun n => pcode (pcall E T n) lo n c ρ H
theorem call_iff {f : Nat} {args : List Value} {lo : Nat} {H : Heap} {r : Value × Heap} : call E T f args lo H = some r ↔ ∃ n, pcall E T n f args lo H = some r :=
  lim_iff fun _ _ r h hr => pcall_mono E T h f args lo H r hr
theorem code_iff {lo : Nat} {c : PCode} {ρ : Env} {H : Heap} {r : Ex × Env × Heap} : code E T lo c ρ H = some r ↔ ∃ n, pcode (pcall E T n) lo n c ρ H = some r :=
  lim_iff fun _ _ _ h hr => pcode_mono (pcall_mono E T h) h c hr
theorem psteps_iff {lo : Nat} : ∀ {is : List PI} {ρ : Env} {H : Heap} {r : Env × Heap}, psteps (call E T) lo is ρ H = some r ↔ ∃ n, psteps (pcall E T n) lo is ρ H = some r := by
  have le : ∀ n, CLe (pcall E T n) (call E T) := fun n f args lo H r hr => (call_iff E T).2 ⟨n, hr⟩
  have val : ∀ {i : PI} {ρ : Env} {H : Heap} {r : Value × Heap}, pval (call E T) lo i ρ H = some r → ∃ n, pval (pcall E T n) lo i ρ H = some r := by
    intro i ρ H r hr
    unfold pval at hr ⊢
    split at hr
    · cases hr
    · exact ⟨0, hr⟩
    · split at hr
      · rename_i hcf
        split at hr
        · exact ⟨0, by rw [if_pos hcf]; exact hr⟩
        · obtain ⟨n, hn⟩ := (call_iff E T).1 hr
          exact ⟨n, by rw [if_pos hcf]; exact hn⟩
        · cases hr
      · cases hr
  intro is
  induction is with
  | nil => exact fun {ρ H r} => ⟨fun h => ⟨0, h⟩, fun ⟨_, h⟩ => h⟩
  | cons i is ih =>
    intro ρ H r
    constructor
    · intro h
      rw [psteps] at h
      split at h
      · rename_i ρ1 H1 h1
        obtain ⟨v, hv, rfl⟩ := pstep_spec h1
        obtain ⟨n1, hn1⟩ := val hv
        obtain ⟨n2, hn2⟩ := ih.1 h
        refine ⟨max n1 n2, ?_⟩
        rw [psteps]
        have e : pstep (pcall E T (max n1 n2)) lo i ρ H = some (put ρ i.dst v, H1) := by
          unfold pstep
          rw [pval_mono (pcall_mono E T (Nat.le_max_left n1 n2)) hn1]
        rw [e]
        exact psteps_mono (pcall_mono E T (Nat.le_max_right n1 n2)) hn2
      · cases h
    · rintro ⟨n, h⟩
      exact psteps_mono (le n) h
theorem opt_ext {α : Type} {a b : Option α} (h : ∀ r, a = some r ↔ b = some r) : a = b := by
  cases a with
  | none =>
    cases b with
    | none => rfl
    | some y => exact ((h y).2 rfl)
  | some x => exact ((h x).1 rfl).symm
variable {lo : Nat} {ρ : Env} {H : Heap}
theorem code_skip : code E T lo .skip ρ H = some (.normal, ρ, H) := (code_iff E T).2 ⟨0, rfl⟩
theorem code_exit {id : Nat} : code E T lo (.exit id) ρ H = some (.exit id, ρ, H) := (code_iff E T).2 ⟨0, rfl⟩
theorem code_ret : code E T lo .ret ρ H = some (.ret, ρ, H) := (code_iff E T).2 ⟨0, rfl⟩
theorem code_reg {ops : List PI} : code E T lo (.reg ops) ρ H = (psteps (call E T) lo ops ρ H).map fun (ρ', H') => (.normal, ρ', H') := by
  refine opt_ext fun r => ?_
  rw [code_iff]
  constructor
  · rintro ⟨n, h⟩
    rw [pcode] at h
    cases hs : psteps (pcall E T n) lo ops ρ H with
    | none => rw [hs] at h; cases h
    | some q =>
      rw [hs] at h
      rw [(psteps_iff E T).2 ⟨n, hs⟩]
      exact h
  · intro h
    cases hs : psteps (call E T) lo ops ρ H with
    | none => rw [hs] at h; cases h
    | some q =>
      rw [hs] at h
      obtain ⟨n, hn⟩ := (psteps_iff E T).1 hs
      exact ⟨n, by rw [pcode, hn]; exact h⟩
theorem code_seq {a b : PCode} : code E T lo (.seq a b) ρ H = match code E T lo a ρ H with
    | some (.normal, ρ', H') => code E T lo b ρ' H'
    | r => r := by
  refine opt_ext fun r => ?_
  rw [code_iff]
  constructor
  · rintro ⟨n, h⟩
    rw [pcode] at h
    split at h
    · rename_i h1
      rw [(code_iff E T).2 ⟨n, h1⟩]
      exact (code_iff E T).2 ⟨n, h⟩
    · rename_i hne
      rw [(code_iff E T).2 ⟨n, h⟩]
      split
      · rename_i he; cases he; exact absurd h (hne _ _)
      · rfl
  · intro h
    split at h
    · rename_i h1
      obtain ⟨n1, h1⟩ := (code_iff E T).1 h1
      obtain ⟨n2, h2⟩ := (code_iff E T).1 h
      refine ⟨max n1 n2, ?_⟩
      rw [pcode, pcode_mono (pcall_mono E T (Nat.le_max_left n1 n2)) (Nat.le_max_left n1 n2) a h1]
      exact pcode_mono (pcall_mono E T (Nat.le_max_right n1 n2)) (Nat.le_max_right n1 n2) b h2
    · rename_i hne
      obtain ⟨n, h1⟩ := (code_iff E T).1 h
      refine ⟨n, ?_⟩
      rw [pcode, h1]
      split
      · rename_i he; cases he; exact absurd h (hne _ _)
      · rfl
theorem code_cond {x : Operand} {a b : PCode} : code E T lo (.cond x a b) ρ H = match ev ρ x with
    | .bool t => if t then code E T lo a ρ H else code E T lo b ρ H
    | _ => none := by
  refine opt_ext fun r => ?_
  rw [code_iff]
  constructor
  · rintro ⟨n, h⟩
    rw [pcode] at h
    split at h
    · rename_i t he
      rw [he]
      show (if t = true then code E T lo a ρ H else code E T lo b ρ H) = some r
      split at h
      · rename_i ht; rw [if_pos ht]; exact (code_iff E T).2 ⟨n, h⟩
      · rename_i ht; rw [if_neg ht]; exact (code_iff E T).2 ⟨n, h⟩
    · cases h
  · intro h
    split at h
    · rename_i t he
      split at h
      · rename_i ht
        obtain ⟨n, h⟩ := (code_iff E T).1 h
        refine ⟨n, ?_⟩
        rw [pcode, he]
        show (if t = true then _ else _) = _
        rw [if_pos ht]
        exact h
      · rename_i ht
        obtain ⟨n, h⟩ := (code_iff E T).1 h
        refine ⟨n, ?_⟩
        rw [pcode, he]
        show (if t = true then _ else _) = _
        rw [if_neg ht]
        exact h
    · cases h
theorem code_block {id : Nat} {a : PCode} : code E T lo (.block id a) ρ H = match code E T lo a ρ H with
    | some (.exit id', ρ', H') => if id' = id then some (.normal, ρ', H') else some (.exit id', ρ', H')
    | r => r := by
  refine opt_ext fun r => ?_
  rw [code_iff]
  constructor
  · rintro ⟨n, h⟩
    rw [pcode] at h
    split at h
    · rename_i h1
      rw [(code_iff E T).2 ⟨n, h1⟩]
      exact h
    · rename_i hne
      rw [(code_iff E T).2 ⟨n, h⟩]
      split
      · rename_i he; cases he; exact absurd h (hne _ _ _)
      · rfl
  · intro h
    split at h
    · rename_i h1
      obtain ⟨n, h1⟩ := (code_iff E T).1 h1
      exact ⟨n, by rw [pcode, h1]; exact h⟩
    · rename_i hne
      obtain ⟨n, h1⟩ := (code_iff E T).1 h
      refine ⟨n, ?_⟩
      rw [pcode, h1]
      split
      · rename_i he; cases he; exact absurd h (hne _ _ _)
      · rfl
theorem code_loop {a : PCode} : code E T lo (.loop a) ρ H = match code E T lo a ρ H with
    | some (.normal, ρ', H') => code E T lo (.loop a) ρ' H'
    | r => r := by
  refine opt_ext fun r => ?_
  rw [code_iff]
  constructor
  · rintro ⟨n, h⟩
    rw [pcode] at h
    cases n with
    | zero => cases h
    | succ n =>
      rw [ploop] at h
      split at h
      · rename_i h1
        rw [(code_iff E T).2 ⟨n + 1, h1⟩]
        refine (code_iff E T).2 ⟨n + 1, ?_⟩
        rw [pcode]
        exact ploop_mono (fun _ _ _ h => h) (Nat.le_succ n) h
      · rename_i hne
        rw [(code_iff E T).2 ⟨n + 1, h⟩]
        split
        · rename_i he; cases he; exact absurd h (hne _ _)
        · rfl
  · intro h
    split at h
    · rename_i h1
      obtain ⟨n1, h1⟩ := (code_iff E T).1 h1
      obtain ⟨n2, h2⟩ := (code_iff E T).1 h
      refine ⟨max n1 n2 + 1, ?_⟩
      have g1 := pcode_mono (pcall_mono E T (show n1 ≤ max n1 n2 + 1 by omega)) (show n1 ≤ max n1 n2 + 1 by omega) a h1
      rw [pcode, ploop, g1]
      rw [pcode] at h2
      exact ploop_mono (fun _ _ _ h => pcode_mono (pcall_mono E T (show n2 ≤ max n1 n2 + 1 by omega)) (show n2 ≤ max n1 n2 + 1 by omega) a h) (show n2 ≤ max n1 n2 by omega) h2
    · rename_i hne
      obtain ⟨n, h1⟩ := (code_iff E T).1 h
      refine ⟨n + 1, ?_⟩
      rw [pcode, ploop, pcode_mono (pcall_step E T n) (Nat.le_succ n) a h1]
      split
      · rename_i he; cases he; exact absurd h (hne _ _)
      · rfl
noncomputable def runF (lo : Nat) (pf : PFunc) (args : List Value) (H : Heap) : Option (Value × Heap) :=
  if args.length ≤ pf.ntmps then
    match code E T lo pf.body (penv args) H with
    | some (.normal, ρ, H') | some (.ret, ρ, H') => (presult pf.res ρ H').map (·, H')
    | _ => none
  else none
theorem call_prim {f : Nat} {p : List Value → Heap → Option Value} (h : E.prim f = some p) {args : List Value} : call E T f args lo H = (p args H).map (·, H) := by
  refine opt_ext fun r => ?_
  rw [call_iff]
  constructor
  · rintro ⟨n, hr⟩
    cases n with
    | zero => cases hr
    | succ n => rw [pcall, h] at hr; exact hr
  · intro hr
    exact ⟨1, by rw [pcall, h]; exact hr⟩
theorem call_eq {f : Nat} {pf : PFunc} (hp : E.prim f = none) (h : T f = some pf) {args : List Value} : call E T f args lo H = runF E T lo pf args H := by
  refine opt_ext fun r => ?_
  rw [call_iff]
  unfold runF
  constructor
  · rintro ⟨n, hr⟩
    cases n with
    | zero => cases hr
    | succ n =>
      rw [pcall, hp, h] at hr
      simp only at hr
      split at hr
      · rename_i ha
        rw [if_pos ha]
        split at hr
        · rename_i h1
          rw [(code_iff E T).2 ⟨n, h1⟩]
          exact hr
        · rename_i h1
          rw [(code_iff E T).2 ⟨n, h1⟩]
          exact hr
        · cases hr
      · cases hr
  · intro hr
    split at hr
    · rename_i ha
      split at hr
      · rename_i h1
        obtain ⟨n, h1⟩ := (code_iff E T).1 h1
        exact ⟨n + 1, by rw [pcall, hp, h]; simp only; rw [if_pos ha, h1]; exact hr⟩
      · rename_i h1
        obtain ⟨n, h1⟩ := (code_iff E T).1 h1
        exact ⟨n + 1, by rw [pcall, hp, h]; simp only; rw [if_pos ha, h1]; exact hr⟩
      · cases hr
    · cases hr
end
end Go.PM
/- A lower bound of what may be written changes nothing that comes to an end; what a call leaves of a heap. -/
namespace Go.PM
theorem write_low {H H' : Heap} {lo lo' b o : Nat} {new : List Value} (hl : lo' ≤ lo) (h : H.write lo b o new = some H') : H.write lo' b o new = some H' := by
  unfold Heap.write at h ⊢
  split at h
  · split at h
    · rename_i hc
      rw [if_pos ⟨by omega, hc.2⟩]
      exact h
    · cases h
  · cases h
theorem map_low {α β : Type} {a b : Option α} {f : α → β} {r : β} (hab : ∀ x, a = some x → b = some x) (h : a.map f = some r) : b.map f = some r := by
  cases a with
  | none => cases h
  | some x => rw [hab x rfl]; exact h
theorem pappend_low {lo lo' size bytes add : Nat} {x : Value} {new : List Value} {H : Heap} {r : Value × Heap} (hl : lo' ≤ lo) (h : pappend lo size bytes x add new H = some r) : pappend lo' size bytes x add new H = some r := by
  unfold pappend at h ⊢
  split at h
  case isFalse => cases h
  rename_i hc
  rw [if_pos hc]
  split at h
  · exact h
  · split at h
    · split at h
      · rename_i h1
        skip
        rw [if_pos h1]
        split at h
        · rename_i h2
          rw [if_pos h2]
          split at h
          · rename_i h3; rw [if_pos h3]; exact h
          · rename_i h3
            rw [if_neg h3]
            exact map_low (fun H' hw => write_low hl hw) h
        · rename_i h2
          rw [if_neg h2]
          split at h
          · rename_i h3
            rw [if_pos h3]
            split at h
            · rename_i h4
              rw [if_pos h4]
              split at h
              · rename_i h5; rw [if_pos (by omega)]; exact h
              · cases h
            · rename_i h4; rw [if_neg h4]; exact h
          · cases h
      · cases h
    · cases h
  · cases h
theorem pop_low {lo lo' : Nat} {p : POp} {ρ : Env} {H : Heap} {o : Out} (hl : lo' ≤ lo) (h : pop lo p ρ H = some o) : pop lo' p ρ H = some o := by
  cases p <;> first | exact h | skip
  case store size q v =>
    simp only [pop] at h ⊢
    split at h
    · split at h
      · rename_i h1
        skip
        rw [if_pos h1]
        exact map_low (fun H' hw => write_low hl hw) h
      · cases h
    · cases h
  case app size bytes x y =>
    simp only [pop] at h ⊢
    split at h
    · split at h
      · skip
        exact map_low (fun H' hw => pappend_low hl hw) h
      · cases h
    · cases h
  case appz z bytes x n =>
    simp only [pop] at h ⊢
    split at h
    · split at h
      · rename_i h1
        skip
        rw [if_pos h1]
        exact map_low (fun H' hw => pappend_low hl hw) h
      · cases h
    · cases h
  case copy size x y =>
    simp only [pop] at h ⊢
    split at h
    · exact h
    · split at h
      · skip
        exact map_low (fun H' hw => write_low hl hw) h
      · cases h
    · cases h
  case clear z x =>
    simp only [pop] at h ⊢
    split at h
    · exact h
    · skip
      split at h
      · rename_i h1; rw [if_pos h1]; exact h
      · rename_i h1
        rw [if_neg h1]
        exact map_low (fun H' hw => write_low hl hw) h
    · cases h
def LowOk (c : Caller) : Prop := ∀ f args lo lo' H r, lo' ≤ lo → c f args lo H = some r → c f args lo' H = some r
section
variable {c : Caller} {lo lo' : Nat}
theorem psteps_low (hc : LowOk c) (hl : lo' ≤ lo) : ∀ {is : List PI} {ρ : Env} {H : Heap} {r : Env × Heap}, psteps c lo is ρ H = some r → psteps c lo' is ρ H = some r
  | [], _, _, _, h => h
  | i :: is, ρ, H, r, h => by
    rw [psteps] at h ⊢
    split at h
    · rename_i ρ1 H1 h1
      have e : pstep c lo' i ρ H = some (ρ1, H1) := by
        unfold pstep at h1 ⊢
        split at h1
        · rename_i v H2 hv
          have : pval c lo' i ρ H = some (v, H2) := by
            unfold pval at hv ⊢
            split at hv
            · cases hv
            · exact hv
            · split at hv
              · rename_i hcf
                rw [if_pos hcf]
                split at hv
                · rename_i hp; rw [pop_low hl hp]; exact hv
                · rename_i hp
                  rw [pop_low hl hp]
                  show c _ _ (if i.quiet = true then H.length else lo') H = _
                  cases hq : i.quiet with
                  | true => rw [hq] at hv; exact hv
                  | false => rw [hq] at hv; exact hc _ _ _ _ _ _ hl hv
                · cases hv
              · cases hv
          rw [this]
          exact h1
        · cases h1
      rw [e]
      exact psteps_low hc hl h
    · cases h
theorem ploop_low {b b' : Env → Heap → Option (Ex × Env × Heap)} (h : ∀ ρ H r, b ρ H = some r → b' ρ H = some r) : ∀ {n : Nat} {ρ : Env} {H : Heap} {r : Ex × Env × Heap}, ploop b n ρ H = some r → ploop b' n ρ H = some r :=
  fun hr => ploop_mono h (Nat.le_refl _) hr
theorem pcode_low (hc : LowOk c) (hl : lo' ≤ lo) {n : Nat} : ∀ (p : PCode) {ρ : Env} {H : Heap} {r : Ex × Env × Heap}, pcode c lo n p ρ H = some r → pcode c lo' n p ρ H = some r
  | .skip, _, _, _, hr => hr
  | .reg ops, ρ, H, r, hr => by
    rw [pcode] at hr ⊢
    exact map_low (fun _ h => psteps_low hc hl h) hr
  | .seq a b, ρ, H, r, hr => by
    rw [pcode] at hr ⊢
    split at hr
    · rename_i h1
      rw [pcode_low hc hl a h1]
      exact pcode_low hc hl b hr
    · rename_i hne
      rw [pcode_low hc hl a hr]
      split
      · rename_i he; cases he; exact absurd hr (hne _ _)
      · rfl
  | .cond x a b, ρ, H, r, hr => by
    rw [pcode] at hr ⊢
    split at hr
    · split at hr
      · rename_i ht; rw [if_pos ht]; exact pcode_low hc hl a hr
      · rename_i ht; rw [if_neg ht]; exact pcode_low hc hl b hr
    · cases hr
  | .block id a, ρ, H, r, hr => by
    rw [pcode] at hr ⊢
    split at hr
    · rename_i h1
      rw [pcode_low hc hl a h1]
      exact hr
    · rename_i hne
      rw [pcode_low hc hl a hr]
      split
      · rename_i he; cases he; exact absurd hr (hne _ _ _)
      · rfl
  | .loop a, ρ, H, r, hr => by
    rw [pcode] at hr ⊢
    exact ploop_low (fun ρ H r hr => pcode_low hc hl a hr) hr
  | .exit id, _, _, _, hr => hr
  | .ret, _, _, _, hr => hr
end
theorem pcall_low (E : Cfg) (T : Tab) : ∀ n, LowOk (pcall E T n)
  | 0, _, _, _, _, _, _, _, h => by cases h
  | n + 1, f, args, lo, lo', H, r, hl, h => by
    rw [pcall] at h ⊢
    split at h
    · exact h
    · split at h
      · cases h
      · split at h
        · rename_i pf _ ha
          rw [if_pos ha]
          split at h
          · rename_i h1; rw [pcode_low (pcall_low E T n) hl pf.body h1]; exact h
          · rename_i h1; rw [pcode_low (pcall_low E T n) hl pf.body h1]; exact h
          · cases h
        · cases h
section
variable {E : Cfg} {T : Tab}
theorem call_low {f : Nat} {args : List Value} {lo lo' : Nat} {H : Heap} {r : Value × Heap} (hl : lo' ≤ lo) (h : call E T f args lo H = some r) : call E T f args lo' H = some r := by
  obtain ⟨n, hn⟩ := (call_iff E T).1 h
  exact (call_iff E T).2 ⟨n, pcall_low E T n f args lo lo' H r hl hn⟩
theorem call_ext {f : Nat} {args : List Value} {lo : Nat} {H H' : Heap} {v : Value} (h : call E T f args lo H = some (v, H')) : Ext lo H H' := by
  obtain ⟨n, hn⟩ := (call_iff E T).1 h
  exact ext_pcall E T n f args lo H v H' hn
theorem Ext.more {H H' : Heap} (h : Ext H.length H H') : ∃ K, H' = H ++ K := by
  refine ⟨H'.drop H.length, ?_⟩
  apply List.ext_getElem?
  intro i
  rcases Nat.lt_or_ge i H.length with hi | hi
  · rw [List.getElem?_append_left hi]
    exact h.low i hi hi
  · rw [List.getElem?_append_right hi, List.getElem?_drop, show H.length + (i - H.length) = i by omega]
def Gives (E : Cfg) (T : Tab) (f : Nat) (args : List Value) (H : Heap) (R : Value → Heap → Prop) : Prop :=
  ∃ v K, call E T f args H.length H = some (v, H ++ K) ∧ R v (H ++ K)
theorem Gives.at {f : Nat} {args : List Value} {H : Heap} {R : Value → Heap → Prop} (h : Gives E T f args H R) {lo : Nat} (hl : lo ≤ H.length) : ∃ v K, call E T f args lo H = some (v, H ++ K) ∧ R v (H ++ K) := by
  obtain ⟨v, K, h1, h2⟩ := h
  exact ⟨v, K, call_low hl h1, h2⟩
theorem Gives.mk {f : Nat} {args : List Value} {H H' : Heap} {v : Value} {R : Value → Heap → Prop} (h : call E T f args H.length H = some (v, H')) (hr : R v H') : Gives E T f args H R := by
  obtain ⟨K, rfl⟩ := (call_ext h).more
  exact ⟨v, K, h, hr⟩
end
end Go.PM
/- What functions of the library come to, told from outside. -/
namespace Go.PM
def strCells : List Value → Option (List ByteArray)
  | [] => some []
  | .string s :: r => (strCells r).map (s :: ·)
  | _ => none
def pFormatUint : List Value → Heap → Option Value
  | [.int .u64 n, .int .i64 b], _ => if b = 10 ∧ 0 ≤ n ∧ n < 18446744073709551616 then some (.string ⟨(Lib.decDigits n.toNat).toArray⟩) else none
  | _, _ => none
def pRepeat : List Value → Heap → Option Value
  | [.string s, .int .i64 c], _ => if 0 ≤ c ∧ c ≤ 9223372036854775807 ∧ s.size * c.toNat ≤ 140737488355328 then some (.string ⟨(Lib.repeatL s.data.toList c.toNat).toArray⟩) else none
  | _, _ => none
def pLeading : List Value → Heap → Option Value
  | [.int .u32 x], _ => if 0 ≤ x ∧ x ≤ 4294967295 then some (.int .i64 (32 - (Lib.bitLen x.toNat : Int))) else none
  | _, _ => none
def pJoin : List Value → Heap → Option Value
  | [.slice none 0 0, .string _], _ => some (.string ⟨#[]⟩)
  | [.slice (some ⟨b, o, none⟩) n c, .string sep], H =>
    if n = 0 then some (.string ⟨#[]⟩) else
    match (H.read b o n).bind strCells with
    | some xs => if xs.length = n ∧ n ≤ c ∧ n ≤ 140737488355328 ∧ (Lib.join (xs.map (·.data.toList)) sep.data.toList).length ≤ 140737488355328 then some (.string ⟨(Lib.join (xs.map (·.data.toList)) sep.data.toList).toArray⟩) else none
    | none => none
  | _, _ => none
def pIndex : List Value → Heap → Option Value
  | [.string s, .string p], _ => match p.data.toList with
    | [c] => some (.int .i64 (Lib.indexByte s.data.toList c))
    | _ => none
  | _, _ => none
def pParseUint : List Value → Heap → Option Value
  | [.string s, .int .i64 b, .int .i64 z], _ => if b = 10 ∧ z = 64 ∧ s.size ≤ 9223372036854775806 then
      match Lib.parseUintB 64 s.data.toList with
      | .ok u => some (.tuple #[.int .u64 (u : Int), .nilIface])
      | _ => none
    else none
  | _, _ => none
end Go.PM
/- The settings for this seat's translation: which functions may write what their arguments lead to. -/
namespace Go.PM
open Go.Proofs
def effs : List Nat := []
 ++ [16]
 ++ [125]
 ++ [122]
 ++ [161]
 ++ [156]
 ++ [157]
def primV (f : Nat) : Option (List Value → Heap → Option Value) :=
  if f = 162 then some pFormatUint else
  if f = 163 then some pRepeat else
  if f = 165 then some pJoin else
  if f = 159 then some pLeading else
  if f = 171 then some pIndex else
  if f = 150 then some pParseUint else
  (fun _ => none) f
def cfg : Cfg := { prim := primV, eff := fun f => effs.contains f }
noncomputable def tab : Tab := fun f => if (primV f).isSome then none else tabOf Tryz.prog cfg f
theorem tab_of (f : Nat) (pf : PFunc) (h : tab f = some pf) : tabOf Tryz.prog cfg f = some pf := by
  unfold tab at h
  split at h
  · cases h
  · exact h
theorem tab_noprim {f : Nat} {pf : PFunc} (h : tab f = some pf) : cfg.prim f = none := by
  unfold tab at h
  split at h
  · cases h
  · rename_i h1
    show primV f = none
    cases hp : primV f with
    | none => rfl
    | some p => rw [hp] at h1; exact absurd rfl h1
end Go.PM
/- Rules by which a function of the pure machine is walked through. -/
namespace Go.PM
noncomputable abbrev pmCall : Caller := call cfg tab
def W (lo : Nat) (c : PCode) (Q : Ex → Env → Heap → Prop) (ρ : Env) (H : Heap) : Prop := ∃ x ρ' H', code cfg tab lo c ρ H = some (x, ρ', H') ∧ Q x ρ' H'
def WS (lo : Nat) (is : List PI) (K : Env → Heap → Prop) (ρ : Env) (H : Heap) : Prop := ∃ ρ' H', psteps pmCall lo is ρ H = some (ρ', H') ∧ K ρ' H'
def seqQ (lo : Nat) (b : PCode) (Q : Ex → Env → Heap → Prop) : Ex → Env → Heap → Prop
  | .normal, ρ, H => W lo b Q ρ H
  | x, ρ, H => Q x ρ H
def blkQ (id : Nat) (Q : Ex → Env → Heap → Prop) : Ex → Env → Heap → Prop
  | .exit id', ρ, H => if id' = id then Q .normal ρ H else Q (.exit id') ρ H
  | x, ρ, H => Q x ρ H
def retQ (res : List PRes) (R : Value → Heap → Prop) : Ex → Env → Heap → Prop
  | .exit _, _, _ => False
  | _, ρ, H => ∃ v, presult res ρ H = some v ∧ R v H
def loopQ (J : Env → Heap → Prop) (Q : Ex → Env → Heap → Prop) : Ex → Env → Heap → Prop
  | .normal, ρ, H => J ρ H
  | x, ρ, H => Q x ρ H
section
variable {lo : Nat} {Q : Ex → Env → Heap → Prop} {K : Env → Heap → Prop} {ρ : Env} {H : Heap} {b : PCode} {id : Nat} {R : Value → Heap → Prop} {res : List PRes} {J : Env → Heap → Prop}
theorem blkQ_exit {i : Nat} : blkQ id Q (.exit i) ρ H = if i = id then Q .normal ρ H else Q (.exit i) ρ H := rfl
theorem W_skip : W lo .skip Q ρ H = Q .normal ρ H := by
  unfold W
  rw [code_skip]
  exact propext ⟨fun ⟨_, _, _, h, hq⟩ => (by cases h; exact hq), fun h => ⟨_, _, _, rfl, h⟩⟩
theorem W_exit {i : Nat} : W lo (.exit i) Q ρ H = Q (.exit i) ρ H := by
  unfold W
  rw [code_exit]
  exact propext ⟨fun ⟨_, _, _, h, hq⟩ => (by cases h; exact hq), fun h => ⟨_, _, _, rfl, h⟩⟩
theorem W_ret : W lo .ret Q ρ H = Q .ret ρ H := by
  unfold W
  rw [code_ret]
  exact propext ⟨fun ⟨_, _, _, h, hq⟩ => (by cases h; exact hq), fun h => ⟨_, _, _, rfl, h⟩⟩
theorem W_reg {ops : List PI} : W lo (.reg ops) Q ρ H = WS lo ops (Q .normal) ρ H := by
  unfold W WS
  rw [code_reg]
  apply propext
  constructor
  · rintro ⟨x, ρ', H', h, hq⟩
    cases hs : psteps (call cfg tab) lo ops ρ H with
    | none => rw [hs] at h; cases h
    | some q =>
      rw [hs] at h
      cases h
      exact ⟨_, _, rfl, hq⟩
  · rintro ⟨ρ', H', h, hq⟩
    exact ⟨_, _, _, by rw [h]; rfl, hq⟩
theorem W_seq {a : PCode} : W lo (.seq a b) Q ρ H = W lo a (seqQ lo b Q) ρ H := by
  unfold W
  rw [code_seq]
  apply propext
  constructor
  · rintro ⟨x, ρ', H', h, hq⟩
    split at h
    · rename_i ρ1 H1 h1
      exact ⟨_, _, _, h1, x, ρ', H', h, hq⟩
    · rename_i hne
      refine ⟨x, ρ', H', h, ?_⟩
      cases x with
      | normal => exact absurd h (hne _ _)
      | exit i => exact hq
      | ret => exact hq
  · rintro ⟨x, ρ', H', h, hq⟩
    rw [h]
    cases x with
    | normal => exact hq
    | exit i => exact ⟨_, _, _, rfl, hq⟩
    | ret => exact ⟨_, _, _, rfl, hq⟩
theorem W_block {a : PCode} : W lo (.block id a) Q ρ H = W lo a (blkQ id Q) ρ H := by
  unfold W
  rw [code_block]
  apply propext
  constructor
  · rintro ⟨x, ρ', H', h, hq⟩
    split at h
    · rename_i id' ρ1 H1 h1
      refine ⟨_, _, _, h1, ?_⟩
      rw [blkQ_exit]
      split at h
      · rename_i he; cases h; rw [if_pos he]; exact hq
      · rename_i he; cases h; rw [if_neg he]; exact hq
    · rename_i hne
      refine ⟨x, ρ', H', h, ?_⟩
      cases x with
      | normal => exact hq
      | exit i => exact absurd h (hne _ _ _)
      | ret => exact hq
  · rintro ⟨x, ρ', H', h, hq⟩
    rw [h]
    cases x with
    | normal => exact ⟨_, _, _, rfl, hq⟩
    | exit i =>
      rw [blkQ_exit] at hq
      show ∃ x ρ'' H'', (if i = id then some (Ex.normal, ρ', H') else some (Ex.exit i, ρ', H')) = some (x, ρ'', H'') ∧ Q x ρ'' H''
      split at hq
      · rename_i he; rw [if_pos he]; exact ⟨_, _, _, rfl, hq⟩
      · rename_i he; rw [if_neg he]; exact ⟨_, _, _, rfl, hq⟩
    | ret => exact ⟨_, _, _, rfl, hq⟩
theorem W_cond {x : Operand} {a : PCode} : W lo (.cond x a b) Q ρ H = ∃ t, ev ρ x = .bool t ∧ ((t = true → W lo a Q ρ H) ∧ (t = false → W lo b Q ρ H)) := by
  unfold W
  rw [code_cond]
  apply propext
  constructor
  · rintro ⟨y, ρ', H', h, hq⟩
    split at h
    · rename_i t ht
      cases t with
      | true => exact ⟨true, ht, fun _ => ⟨y, ρ', H', h, hq⟩, fun h => by cases h⟩
      | false => exact ⟨false, ht, fun h => (by cases h), fun _ => ⟨y, ρ', H', h, hq⟩⟩
    · cases h
  · rintro ⟨t, ht, h1, h2⟩
    rw [ht]
    cases t with
    | true => exact h1 rfl
    | false => exact h2 rfl
theorem W.mono {Q' : Ex → Env → Heap → Prop} {c : PCode} (h : W lo c Q ρ H) (hq : ∀ x ρ H, Q x ρ H → Q' x ρ H) : W lo c Q' ρ H := by
  obtain ⟨x, ρ', H', h1, h2⟩ := h
  exact ⟨x, ρ', H', h1, hq _ _ _ h2⟩
noncomputable def oval (lo : Nat) (q : Bool) (op : POp) (ρ : Env) (H : Heap) : Option (Value × Heap) :=
  match pop lo op ρ H with
  | some (.val v H') => some (v, H')
  | some (.call f args) => pmCall f args (if q then H.length else lo) H
  | none => none
theorem WS_nil : WS lo [] K ρ H = K ρ H := by
  unfold WS
  apply propext
  constructor
  · rintro ⟨ρ', H', h, hk⟩; cases h; exact hk
  · intro h; exact ⟨ρ, H, rfl, h⟩
theorem WS_of {i : PI} {is : List PI} : WS lo (i :: is) K ρ H = ∃ v H', pval pmCall lo i ρ H = some (v, H') ∧ WS lo is K (put ρ i.dst v) H' := by
  unfold WS
  apply propext
  constructor
  · rintro ⟨ρ', H', h, hk⟩
    rw [psteps] at h
    split at h
    · rename_i ρ1 H1 h1
      obtain ⟨v, hv, rfl⟩ := pstep_spec h1
      exact ⟨v, H1, hv, ρ', H', h, hk⟩
    · cases h
  · rintro ⟨v, H1, hv, ρ', H', h, hk⟩
    refine ⟨ρ', H', ?_, hk⟩
    rw [psteps]
    unfold pstep
    rw [hv]
    exact h
variable {q : Bool}
theorem oval_pure {op : POp} (h : looksPure op = true) : oval lo q op ρ H = (ppure op ρ).map (·, H) := by
  unfold oval
  rw [pop_pure h]
  cases ppure op ρ <;> rfl
theorem oval_mv {x : Operand} : oval lo q (.mv x) ρ H = some (ev ρ x, H) := rfl
theorem oval_pick {c a b : Operand} : oval lo q (.pick c a b) ρ H = (match ev ρ c with | .bool t => some ((if t = true then ev ρ a else ev ρ b), H) | _ => none) := by
  rw [oval_pure rfl]
  simp only [ppure]
  cases ev ρ c <;> rfl
theorem oval_bin {op : BinOp} {x y : Operand} : oval lo q (.bin op x y) ρ H = (pbin op (ev ρ x) (ev ρ y)).map (·, H) := oval_pure rfl
theorem oval_un {op : UnOp} {x : Operand} : oval lo q (.un op x) ρ H = (pun op (ev ρ x)).map (·, H) := oval_pure rfl
theorem oval_call {f : Nat} {args : List Operand} : oval lo q (.call f args) ρ H = pmCall f (args.map (ev ρ)) (if q then H.length else lo) H := rfl
end
theorem call_W {f lo : Nat} {pf : PFunc} {args : List Value} {H : Heap} {R : Value → Heap → Prop} (ht : tab f = some pf) (ha : args.length ≤ pf.ntmps) (h : W lo pf.body (retQ pf.res R) (penv args) H) : ∃ v H', pmCall f args lo H = some (v, H') ∧ R v H' := by
  obtain ⟨x, ρ', H', h1, h2⟩ := h
  show ∃ v H', call cfg tab f args lo H = some (v, H') ∧ R v H'
  rw [call_eq cfg tab (tab_noprim ht) ht]
  unfold runF
  rw [if_pos ha, h1]
  cases x with
  | exit i => exact h2.elim
  | normal =>
    obtain ⟨v, h3, h4⟩ := h2
    exact ⟨v, H', by simp only; rw [h3]; rfl, h4⟩
  | ret =>
    obtain ⟨v, h3, h4⟩ := h2
    exact ⟨v, H', by simp only; rw [h3]; rfl, h4⟩
end Go.PM
/- What each operation comes to, in words that a rewriting takes. -/
namespace Go.PM
theorem wrap64 {x : Int} (h1 : -9223372036854775808 ≤ x) (h2 : x ≤ 9223372036854775807) : IntKind.i64.wrap x = x := by
  rw [IntKind.wrap_i64]
  omega
section
variable {k : IntKind} {a b : Int}
theorem pbin_add : pbin .add (.int k a) (.int k b) = some (.int k (k.wrap (a + b))) := by simp [pbin]
theorem pbin_sub : pbin .sub (.int k a) (.int k b) = some (.int k (k.wrap (a - b))) := by simp [pbin]
theorem pbin_mul : pbin .mul (.int k a) (.int k b) = some (.int k (k.wrap (a * b))) := by simp [pbin]
theorem pbin_lss : pbin .lss (.int k a) (.int k b) = some (.bool (decide (a < b))) := by simp [pbin]
theorem pbin_leq : pbin .leq (.int k a) (.int k b) = some (.bool (decide (a ≤ b))) := by simp [pbin]
theorem pbin_gtr : pbin .gtr (.int k a) (.int k b) = some (.bool (decide (b < a))) := by simp [pbin]
theorem pbin_geq : pbin .geq (.int k a) (.int k b) = some (.bool (decide (b ≤ a))) := by simp [pbin]
theorem pbin_eql : pbin .eql (.int k a) (.int k b) = some (.bool (decide (a = b))) := by
  simp only [pbin, if_true]
  rfl
theorem pbin_neq : pbin .neq (.int k a) (.int k b) = some (.bool (!decide (a = b))) := by
  simp only [pbin, if_true]
  rfl
theorem pun_neg : pun .neg (.int k a) = some (.int k (k.wrap (0 - a))) := rfl
theorem pun_not {t : Bool} : pun .not (.bool t) = some (.bool (!t)) := rfl
end
def lenV : Value → Option Value
  | .slice _ n _ => some (.int .i64 n)
  | _ => none
def eqbV (neg : Bool) : Value → Value → Option Value
  | .bool a, .bool b => some (.bool ((a == b) != neg))
  | _, _ => none
def isnilV (neg : Bool) : Value → Option Value
  | .slice none _ _ => some (.bool (true != neg))
  | .slice (some _) _ _ => some (.bool (false != neg))
  | _ => none
def eqaggV (neg : Bool) (ks : List CK) : Value → Value → Option Value
  | .agg a, .agg b => (eqCells ks a.toList b.toList).map fun t => .bool (t != neg)
  | _, _ => none
def cvtV (k : IntKind) : Value → Option Value
  | .int _ n => some (.int k (k.wrap n))
  | _ => none
def extV (i : Nat) : Value → Option Value
  | .tuple vs => vs[i]?
  | _ => none
def fldV (agg : Bool) (off size : Nat) : Value → Option Value
  | .agg cs => if agg then (if off + size ≤ cs.size then some (.agg (cs.extract off (off + size))) else none) else cs[off]?
  | _ => none
def chkV : Value → Option Value
  | .pointer (some a) => some (.pointer (some a))
  | _ => none
def faddrV (off : Nat) : Value → Option Value
  | .pointer (some ⟨b, o, none⟩) => some (.pointer (some ⟨b, o + off, none⟩))
  | _ => none
def iaddrV (size : Nat) : Value → Value → Option Value
  | .slice (some ⟨b, o, none⟩) n _, .int _ i => if 0 ≤ i ∧ i < n then some (.pointer (some ⟨b, o + i.toNat * size, none⟩)) else none
  | _, _ => none
def minV : Value → Value → Option Value
  | .int k a, .int _ b => some (.int k (if b < a then b else a))
  | _, _ => none
def maxV : Value → Value → Option Value
  | .int k a, .int _ b => some (.int k (if b > a then b else a))
  | _, _ => none
section
variable {lo : Nat} {ρ : Env} {H : Heap} {q : Bool}
theorem oval_lift {op : POp} {r : Option (Value × Heap)} (h : pop lo op ρ H = r.map fun (v, H') => .val v H') : oval lo q op ρ H = r := by
  unfold oval
  rw [h]
  cases r <;> rfl
theorem oval_len {x : Operand} : oval lo q (.len x) ρ H = (lenV (ev ρ x)).map (·, H) := oval_pure rfl
theorem oval_eqb {neg : Bool} {x y : Operand} : oval lo q (.eqb neg x y) ρ H = (eqbV neg (ev ρ x) (ev ρ y)).map (·, H) := oval_pure rfl
theorem oval_isnil {neg : Bool} {x : Operand} : oval lo q (.isnil neg x) ρ H = (isnilV neg (ev ρ x)).map (·, H) := oval_pure rfl
theorem oval_eqagg {neg : Bool} {ks : List CK} {x y : Operand} : oval lo q (.eqagg neg ks x y) ρ H = (eqaggV neg ks (ev ρ x) (ev ρ y)).map (·, H) := oval_pure rfl
theorem oval_cvt {k : IntKind} {x : Operand} : oval lo q (.cvt k x) ρ H = (cvtV k (ev ρ x)).map (·, H) := oval_pure rfl
theorem oval_ext {i : Nat} {x : Operand} : oval lo q (.ext x i) ρ H = (extV i (ev ρ x)).map (·, H) := oval_pure rfl
theorem oval_fld {agg : Bool} {off size : Nat} {x : Operand} : oval lo q (.fld agg off size x) ρ H = (fldV agg off size (ev ρ x)).map (·, H) := oval_pure rfl
theorem oval_build {z : List Value} {places : List (Nat × Nat)} {parts : List (Nat × Operand)} : oval lo q (.build z places parts) ρ H = ((pfill places z (parts.map fun (i, x) => (i, ev ρ x))).map fun cs => Value.agg cs.toArray).map (·, H) := oval_pure rfl
theorem oval_chk {x : Operand} : oval lo q (.chk x) ρ H = (chkV (ev ρ x)).map (·, H) := oval_pure rfl
theorem oval_faddr {off : Nat} {x : Operand} : oval lo q (.faddr off x) ρ H = (faddrV off (ev ρ x)).map (·, H) := oval_pure rfl
theorem oval_iaddr {size : Nat} {x i : Operand} : oval lo q (.iaddr size x i) ρ H = (iaddrV size (ev ρ x) (ev ρ i)).map (·, H) := oval_pure rfl
theorem oval_mkfn {f : Nat} {caps : List Operand} : oval lo q (.mkfn f caps) ρ H = some (.func (.func f) #[] (caps.map (ev ρ)).toArray, H) := oval_pure rfl
theorem oval_min {x y : Operand} : oval lo q (.min x y) ρ H = (minV (ev ρ x) (ev ρ y)).map (·, H) := oval_pure rfl
theorem oval_max {x y : Operand} : oval lo q (.max x y) ρ H = (maxV (ev ρ x) (ev ρ y)).map (·, H) := oval_pure rfl
theorem oval_load {agg : Bool} {size : Nat} {p : Operand} : oval lo q (.load agg size p) ρ H = (pload agg size (ev ρ p) H).map (·, H) := by
  unfold oval
  simp only [pop]
  cases pload agg size (ev ρ p) H <;> rfl
theorem oval_sub {size : Nat} {x : Operand} {l h m : Option Operand} : oval lo q (.sub size x l h m) ρ H = psub size (ev ρ x) (l.map (ev ρ)) (h.map (ev ρ)) (m.map (ev ρ)) H := by
  unfold oval
  simp only [pop]
  cases psub size (ev ρ x) (l.map (ev ρ)) (h.map (ev ρ)) (m.map (ev ρ)) H <;> rfl
theorem oval_new {z : List Value} : oval lo q (.new z) ρ H = some (.pointer (some ⟨H.length, 0, none⟩), H ++ [.row z z.length false]) := rfl
theorem oval_box {x : Operand} : oval lo q (.box x) ρ H = if (pcells (ev ρ x)).all scal then some (.pointer (some ⟨H.length, 0, none⟩), H ++ [.row (pcells (ev ρ x)) (pcells (ev ρ x)).length false]) else none := by
  apply oval_lift
  simp only [pop]
  by_cases h : (pcells (ev ρ x)).all scal = true
  · rw [if_pos h, if_pos h]; rfl
  · rw [if_neg h, if_neg h]; rfl
def makeV (z : List Value) (bytes : Nat) (l c : Value) (H : Heap) : Option (Value × Heap) :=
  match l, c with
  | .int .i64 l, .int .i64 c => if 0 ≤ l ∧ l ≤ c ∧ c * bytes ≤ 281474976710656 ∧ c ≤ 9223372036854775807 then
      some (.slice (some ⟨H.length, 0, none⟩) l.toNat c.toNat, H ++ [.row (zcells c.toNat z) z.length false]) else none
  | _, _ => none
theorem oval_make {z : List Value} {bytes : Nat} {l c : Operand} : oval lo q (.make z bytes l c) ρ H = makeV z bytes (ev ρ l) (ev ρ c) H := by
  apply oval_lift
  simp only [pop]
  unfold makeV
  split
  · rename_i l c h1 h2
    simp only [h1, h2]
    split <;> rfl
  · rename_i h1
    split
    · rename_i h2 h3
      exact (h1 _ _ h2 h3).elim
    · rfl
def litV (z : List Value) (n : Nat) (parts : List (Nat × Value)) (H : Heap) : Option (Value × Heap) :=
  match pfill ((List.range n).map fun i => (i * z.length, z.length)) (zcells n z) parts with
  | some cs => if cs.all scal then some (.slice (some ⟨H.length, 0, none⟩) n n, H ++ [.row cs z.length false]) else none
  | none => none
theorem oval_lit {z : List Value} {n : Nat} {parts : List (Nat × Operand)} : oval lo q (.lit z n parts) ρ H = litV z n (parts.map fun (i, x) => (i, ev ρ x)) H := by
  apply oval_lift
  simp only [pop]
  unfold litV
  split
  · rename_i cs h1
    simp only [h1]
    split <;> rfl
  · rename_i h1
    simp only [h1]
    rfl
def storeV (lo size : Nat) (p v : Value) (H : Heap) : Option (Value × Heap) :=
  match p with
  | .pointer (some ⟨b, o, none⟩) => if (pcells v).length = size then (H.write lo b o (pcells v)).map fun H' => (undef, H') else none
  | _ => none
theorem oval_store {size : Nat} {p v : Operand} : oval lo q (.store size p v) ρ H = storeV lo size (ev ρ p) (ev ρ v) H := by
  apply oval_lift
  simp only [pop]
  unfold storeV
  split
  · rename_i b o h1
    simp only [h1]
    split
    · cases H.write lo b o (pcells (ev ρ v)) <;> rfl
    · rfl
  · rename_i h1
    split
    · rename_i h2
      exact (h1 _ _ h2).elim
    · rfl
def appV (lo size bytes : Nat) (x y : Value) (H : Heap) : Option (Value × Heap) :=
  match plenOf y with
  | some n => match psource H size n y with
    | some new => pappend lo size bytes x n new H
    | none => none
  | none => none
theorem oval_app {size bytes : Nat} {x y : Operand} : oval lo q (.app size bytes x y) ρ H = appV lo size bytes (ev ρ x) (ev ρ y) H := by
  apply oval_lift
  simp only [pop]
  unfold appV
  cases plenOf (ev ρ y) with
  | none => rfl
  | some n =>
    cases hs : psource H size n (ev ρ y) with
    | none => simp only [hs]; rfl
    | some new => simp only [hs]
def appzV (lo : Nat) (z : List Value) (bytes : Nat) (x n : Value) (H : Heap) : Option (Value × Heap) :=
  match n with
  | .int .i64 n => if 0 ≤ n ∧ n * bytes ≤ 140737488355328 then pappend lo z.length bytes x n.toNat (zcells n.toNat z) H else none
  | _ => none
theorem oval_appz {z : List Value} {bytes : Nat} {x n : Operand} : oval lo q (.appz z bytes x n) ρ H = appzV lo z bytes (ev ρ x) (ev ρ n) H := by
  apply oval_lift
  simp only [pop]
  unfold appzV
  split
  · rename_i n h1
    simp only [h1]
    split <;> rfl
  · rename_i h1
    split
    · rename_i h2
      exact (h1 _ h2).elim
    · rfl
def copyV (lo size : Nat) (x y : Value) (H : Heap) : Option (Value × Heap) :=
  match x, plenOf y with
  | .slice none _ _, some _ => some (.int .i64 0, H)
  | .slice (some ⟨b, o, none⟩) d _, some s => match psource H size (Nat.min s d) y with
    | some new => (H.write lo b o new).map fun H' => (.int .i64 (Nat.min s d), H')
    | none => none
  | _, _ => none
theorem oval_copy {size : Nat} {x y : Operand} : oval lo q (.copy size x y) ρ H = copyV lo size (ev ρ x) (ev ρ y) H := by
  apply oval_lift
  simp only [pop]
  unfold copyV
  split
  · rename_i h1 h2
    simp only [h1, h2]
    rfl
  · rename_i b o d _ s h1 h2
    simp only [h1, h2]
    cases hs : psource H size (Nat.min s d) (ev ρ y) with
    | none => rfl
    | some new =>
      simp only
      cases H.write lo b o new <;> rfl
  · rename_i h1 h2
    split
    · rename_i h3 h4
      exact (h1 _ _ _ h3 h4).elim
    · rename_i h3 h4
      exact (h2 _ _ _ _ _ h3 h4).elim
    · rfl
def clearV (lo : Nat) (z : List Value) (x : Value) (H : Heap) : Option (Value × Heap) :=
  match x with
  | .slice none _ _ => some (undef, H)
  | .slice (some ⟨b, o, none⟩) n _ => if n = 0 then some (undef, H) else (H.write lo b o (zcells n z)).map fun H' => (undef, H')
  | _ => none
theorem oval_clear {z : List Value} {x : Operand} : oval lo q (.clear z x) ρ H = clearV lo z (ev ρ x) H := by
  apply oval_lift
  simp only [pop]
  unfold clearV
  split
  · rename_i h1
    simp only [h1]
    rfl
  · rename_i b o n _ h1
    simp only [h1]
    split
    · rfl
    · cases H.write lo b o (zcells n z) <;> rfl
  · rename_i h1 h2
    split
    · rename_i h3
      exact (h1 _ _ h3).elim
    · rename_i h3
      exact (h2 _ _ _ _ h3).elim
    · rfl
noncomputable def callV (lo : Nat) (fv : Value) (args : List Value) (H : Heap) : Option (Value × Heap) :=
  match fv with
  | .func (.func f) first caps => pmCall f (first.toList ++ args ++ caps.toList) lo H
  | _ => none
theorem oval_callv {fv : Operand} {args : List Operand} : oval lo q (.callv fv args) ρ H = callV (if q then H.length else lo) (ev ρ fv) (args.map (ev ρ)) H := by
  unfold oval
  simp only [pop]
  unfold callV
  generalize ev ρ fv = v
  cases v with
  | func fn f c => cases fn <;> rfl
  | _ => rfl
end
end Go.PM
/- Rules for guards and choices whose word is known; a choice told apart; calls told by one value. -/
namespace Go.PM
section
variable {lo : Nat} {Q : Ex → Env → Heap → Prop} {K : Env → Heap → Prop} {ρ : Env} {H : Heap} {q : Bool}
def koff (u v : Value) : Bool := match blkOf u, blkOf v with
  | some a, some b => a != b
  | _, _ => true
end
theorem max_int {k : IntKind} {a b : Int} : maxV (.int k a) (.int k b) = some (.int k (max a b)) := by
  simp only [maxV]
  congr 2
  split <;> omega
theorem min_int {k : IntKind} {a b : Int} : minV (.int k a) (.int k b) = some (.int k (min a b)) := by
  simp only [minV]
  congr 2
  split <;> omega
end Go.PM
/- What stands in the heap, and what is read from there. -/
namespace Go.PM
abbrev ptr (b o : Nat) : Value := .pointer (some ⟨b, o, none⟩)
abbrev I (n : Int) : Value := .int .i64 n
section
variable {H H' : Heap} {lo b o n size : Nat} {cs r : List Value} {L K : Heap} {v : Value}
theorem get_old (hb : b < H.length) : (H ++ L)[b]? = H[b]? := List.getElem?_append_left hb
theorem get_top {x : Blk} : (H ++ x :: L)[H.length]? = some x := by simp
theorem read_old (hb : b < H.length) : (H ++ L).read b o n = H.read b o n := read_congr (get_old hb)
theorem read_row {e : Nat} {p : Bool} (h : H[b]? = some (.row r e p)) (hn : o + n ≤ r.length) : H.read b o n = some ((r.drop o).take n) := by
  unfold Heap.read
  rw [h]
  simp only [hn, if_true]
structure Elem (H : Heap) (b o : Nat) (cs : List Value) : Prop where
  lt : b < H.length
  rd : H.read b o cs.length = some cs
theorem Elem.app (h : Elem H b o cs) : Elem (H ++ L) b o cs := ⟨by have := h.lt; simp; omega, by rw [read_old h.lt]; exact h.rd⟩
theorem Elem.pre (h : Elem H b o cs) (hp : H <+: H') : Elem H' b o cs := by
  obtain ⟨L, rfl⟩ := hp
  exact h.app
theorem Elem.all (h : Elem H b o cs) (hs : cs.length = size) : pload true size (.pointer (some ⟨b, o, none⟩)) H = some (.agg cs.toArray) := by
  subst hs
  simp only [pload, if_true, h.rd]
  rfl
theorem Elem.one {u : Value} (h : Elem H b o [u]) : pload false size (.pointer (some ⟨b, o, none⟩)) H = some u := by
  have := h.rd
  simp only [List.length_cons, List.length_nil] at this
  simp only [pload, this]
  rfl
theorem Elem.sub {k : Nat} {u : Value} (h : Elem H b o cs) (hk : cs[k]? = some u) : Elem H b (o + k) [u] := by
  refine ⟨h.lt, ?_⟩
  have h1 := h.rd
  unfold Heap.read at h1 ⊢
  split at h1
  · rename_i r e p hb
    split at h1
    · rename_i hl
      have hk' := (List.getElem?_eq_some_iff.1 hk).1
      simp only [List.length_cons, List.length_nil]
      rw [if_pos (by simp; omega)]
      injection h1 with h1
      rw [← h1] at hk
      rw [List.getElem?_take, if_pos (by omega), List.getElem?_drop] at hk
      have hlt := (List.getElem?_eq_some_iff.1 hk).1
      rw [List.drop_eq_getElem_cons hlt]
      simp only [List.take_succ_cons, List.take_zero]
      rw [List.getElem?_eq_getElem hlt] at hk
      injection hk with hk
      rw [hk]
    · cases h1
  · cases h1
theorem Elem.fld {k : Nat} {u : Value} (h : Elem H b o cs) (hk : cs[k]? = some u) : pload false size (.pointer (some ⟨b, o + k, none⟩)) H = some u := (h.sub hk).one
theorem iaddr_at {a : Nat} {c : Nat} {i : Int} {k : IntKind} (h0 : 0 ≤ i) (h1 : i < n) : iaddrV size (.slice (some ⟨b, a, none⟩) n c) (.int k i) = some (.pointer (some ⟨b, a + i.toNat * size, none⟩)) := by
  simp only [iaddrV]
  rw [if_pos ⟨h0, h1⟩]
structure Arr {α : Type} (enc : α → List Value) (esz : Nat) (H : Heap) (a : Option Addr) (n : Nat) (xs : List α) : Prop where
  len : n = xs.length
  el : ∀ (i : Nat) x, xs[i]? = some x → ∃ b o, a = some ⟨b, o, none⟩ ∧ Elem H b (o + i * esz) (enc x)
theorem Arr.pre {α : Type} {enc : α → List Value} {esz : Nat} {a : Option Addr} {xs : List α} (h : Arr enc esz H a n xs) (hp : H <+: H') : Arr enc esz H' a n xs :=
  ⟨h.len, fun i x hx => by obtain ⟨b, o, h1, h2⟩ := h.el i x hx; exact ⟨b, o, h1, h2.pre hp⟩⟩
end
structure Cust where
  t : Int
  w : Int
  k : Int
  deriving DecidableEq
def cc (c : Cust) : List Value := [I c.t, I c.w, I c.k]
end Go.PM
/- Rows of elements of one size: reading, writing, making, cutting. -/
namespace Go.PM
structure EncOk {α : Type} (enc : α → List Value) (esz : Nat) : Prop where
  len : ∀ x, (enc x).length = esz
  sc : ∀ x, (enc x).all scal = true
  pos : 1 ≤ esz
section
variable {α : Type} {enc : α → List Value} {esz : Nat} {H H' : Heap} {lo b : Nat} {xs ys : List α} {p : Bool}
theorem flat_len (e : EncOk enc esz) : (xs.flatMap enc).length = xs.length * esz := by
  induction xs with
  | nil => simp
  | cons x xs ih => simp only [List.flatMap_cons, List.length_append, e.len, ih, List.length_cons, Nat.succ_mul]; omega
theorem flat_drop (e : EncOk enc esz) (i : Nat) : (xs.flatMap enc).drop (i * esz) = (xs.drop i).flatMap enc := by
  induction i generalizing xs with
  | zero => simp
  | succ i ih =>
    cases xs with
    | nil => simp
    | cons x xs =>
      rw [List.flatMap_cons, List.drop_succ_cons, ← ih, show (i + 1) * esz = (enc x).length + i * esz by rw [e.len, Nat.succ_mul]; omega, List.drop_append]
      simp
theorem flat_take (e : EncOk enc esz) (i : Nat) : (xs.flatMap enc).take (i * esz) = (xs.take i).flatMap enc := by
  induction i generalizing xs with
  | zero => simp
  | succ i ih =>
    cases xs with
    | nil => simp
    | cons x xs =>
      rw [List.flatMap_cons, List.take_succ_cons, List.flatMap_cons, ← ih, show (i + 1) * esz = (enc x).length + i * esz by rw [e.len, Nat.succ_mul]; omega, List.take_append]
      simp
      exact List.take_of_length_le (by omega)
theorem flat_splice (e : EncOk enc esz) {i : Nat} (x : α) (hi : i < xs.length) : splice (xs.flatMap enc) (i * esz) (enc x) = (xs.set i x).flatMap enc := by
  unfold splice
  rw [flat_take e, e.len, show i * esz + esz = (i + 1) * esz by rw [Nat.succ_mul], flat_drop e, List.set_eq_take_append_cons_drop, if_pos hi]
  simp
def Row (enc : α → List Value) (esz : Nat) (H : Heap) (b : Nat) (p : Bool) (xs : List α) : Prop := H[b]? = some (.row (xs.flatMap enc) esz p)
theorem Row.lt (h : Row enc esz H b p xs) : b < H.length := (List.getElem?_eq_some_iff.1 h).1
theorem Row.pre (h : Row enc esz H b p xs) (hp : H <+: H') : Row enc esz H' b p xs := by
  obtain ⟨L, rfl⟩ := hp
  unfold Row
  rw [get_old h.lt]
  exact h
theorem Row.elem (h : Row enc esz H b p xs) (e : EncOk enc esz) {i : Nat} {x : α} (hx : xs[i]? = some x) : Elem H b (i * esz) (enc x) := by
  refine ⟨h.lt, ?_⟩
  have hi := (List.getElem?_eq_some_iff.1 hx).1
  have hm : (i + 1) * esz ≤ xs.length * esz := Nat.mul_le_mul_right _ hi
  rw [Nat.succ_mul] at hm
  rw [read_row h (by rw [e.len, flat_len e]; omega), flat_drop e, e.len]
  have := flat_take (xs := xs.drop i) e 1
  rw [Nat.one_mul] at this
  rw [this, List.drop_eq_getElem_cons hi]
  rw [List.getElem?_eq_getElem hi] at hx
  injection hx with hx
  simp [hx]
theorem Row.arr (h : Row enc esz H b p xs) (e : EncOk enc esz) {n : Nat} (hn : n ≤ xs.length) : Arr enc esz H (some ⟨b, 0, none⟩) n (xs.take n) := by
  refine ⟨by simp; omega, fun i x hx => ⟨b, 0, rfl, ?_⟩⟩
  rw [Nat.zero_add]
  refine h.elem e ?_
  rw [List.getElem?_take] at hx
  split at hx
  · exact hx
  · cases hx
theorem Row.store (h : Row enc esz H b p xs) (e : EncOk enc esz) {i : Nat} {x : α} {u : Value} (hu : pcells u = enc x) (hi : i < xs.length) (hl : lo ≤ b) : storeV lo esz (.pointer (some ⟨b, i * esz, none⟩)) u H = some (undef, H.set b (.row ((xs.set i x).flatMap enc) esz p)) := by
  simp only [storeV, Heap.write, hu, e.len, if_true]
  have h' : H[b]? = some (.row (xs.flatMap enc) esz p) := h
  have hm : (i + 1) * esz ≤ xs.length * esz := Nat.mul_le_mul_right _ hi
  rw [Nat.succ_mul] at hm
  simp only [h']
  rw [if_pos ⟨hl, by rw [flat_len e]; omega, e.sc x⟩, flat_splice e x hi]
  rfl
theorem Row.set (h : Row enc esz H b p xs) (ys : List α) : Row enc esz (H.set b (.row (ys.flatMap enc) esz p)) b p ys := by
  unfold Row
  rw [List.getElem?_set_self h.lt]
theorem zcells_flat (e : EncOk enc esz) {n : Nat} {x : α} : zcells n (enc x) = (List.replicate n x).flatMap enc := by
  have hpos := e.pos
  have hlen := e.len x
  apply List.ext_getElem?
  intro i
  unfold zcells
  rw [List.getElem?_map, hlen]
  rcases Nat.lt_or_ge i (n * esz) with hi | hi
  · rw [List.getElem?_range hi]
    have hq : i / esz < n := Nat.div_lt_of_lt_mul (by rw [Nat.mul_comm]; exact hi)
    have h1 : ((List.replicate n x).flatMap enc)[i]? = (((List.replicate n x).flatMap enc).drop (i / esz * esz))[i % esz]? := by
      rw [List.getElem?_drop]
      congr 1
      rw [Nat.mul_comm]
      exact (Nat.div_add_mod i esz).symm
    have hr : i % esz < (enc x).length := by rw [hlen]; exact Nat.mod_lt _ (by omega)
    rw [h1, flat_drop e, List.drop_replicate, show n - i / esz = (n - i / esz - 1) + 1 by omega, List.replicate_succ, List.flatMap_cons, List.getElem?_append_left hr]
    simp [List.getD_eq_getElem?_getD, List.getElem?_eq_getElem hr]
  · rw [List.getElem?_eq_none (by simpa using hi), List.getElem?_eq_none (by rw [flat_len e]; simpa using hi)]
    rfl
theorem Row.top {K : Heap} : Row enc esz (H ++ .row (xs.flatMap enc) esz p :: K) H.length p xs := get_top
end
end Go.PM
/- The blocks that a function has made itself, on top of the heap, told by a list. -/
namespace Go.PM
section
variable {H L : Heap} {lo k o size : Nat} {agg : Bool} {u : Value}
end
end Go.PM
/- The library's functions at this seat: their bodies are those of the kit's contracts (laid by wip/lays.sh with the kit's own tools). -/
namespace Go.Proofs
open Go.Shelf
def lay156_ren : Go.Shelf.Ren := ⟨fun | 156 => 165 | 165 => 178 | 166 => 179 | 169 => 181 | 240 => 196 | 241 => 197 | 276 => 208 | 277 => 209 | n => n, fun | 31 => 30 | 9 => 9 | 3 => 3 | 4 => 4 | 0 => 0 | 20 => 20 | 72 => 201 | 76 => 203 | 70 => 199 | 37 => 37 | 75 => 170 | 127 => 216 | 164 => 226 | 5 => 5 | 80 => 162 | n => n, fun | n => n⟩
theorem lay156 : Go.Proofs.Lays.n156 Tryz.prog lay156_ren := {
  mixed := by kernel_rfl
  f156 := Tryz.func165.trans (congrArg some (by kernel_rfl))
  f165 := Tryz.func178.trans (congrArg some (by kernel_rfl))
  f166 := Tryz.func179.trans (congrArg some (by kernel_rfl))
  f169 := Tryz.func181.trans (congrArg some (by kernel_rfl))
  f240 := Tryz.func196.trans (congrArg some (by kernel_rfl))
  f241 := Tryz.func197.trans (congrArg some (by kernel_rfl))
  f276 := Tryz.func208.trans (congrArg some (by kernel_rfl))
  f277 := Tryz.func209.trans (congrArg some (by kernel_rfl))
  t0 := Tryz.underlying0
  a0 := Tryz.isAgg0
  z0 := Tryz.sizeOf0
  v0 := Tryz.zeroValue0
  t3 := Tryz.underlying3
  a3 := Tryz.isAgg3
  z3 := Tryz.sizeOf3
  v3 := Tryz.zeroValue3
  t4 := Tryz.underlying4
  a4 := Tryz.isAgg4
  z4 := Tryz.sizeOf4
  v4 := Tryz.zeroValue4
  t9 := Tryz.underlying9
  a9 := Tryz.isAgg9
  z9 := Tryz.sizeOf9
  v9 := Tryz.zeroValue9
  t20 := Tryz.underlying20
  a20 := Tryz.isAgg20
  z20 := Tryz.sizeOf20
  v20 := Tryz.zeroValue20
  t31 := Tryz.underlying30
  a31 := Tryz.isAgg30
  z31 := Tryz.sizeOf30
  v31 := Tryz.zeroValue30
  t37 := Tryz.underlying37
  a37 := Tryz.isAgg37
  z37 := Tryz.sizeOf37
  v37 := Tryz.zeroValue37
  t70 := Tryz.underlying199
  a70 := Tryz.isAgg199
  z70 := Tryz.sizeOf199
  v70 := Tryz.zeroValue199
  t72 := Tryz.underlying201
  a72 := Tryz.isAgg201
  z72 := Tryz.sizeOf201
  v72 := Tryz.zeroValue201
  t75 := Tryz.underlying170
  a75 := Tryz.isAgg170
  z75 := Tryz.sizeOf170
  v75 := Tryz.zeroValue170
  t76 := Tryz.underlying203
  a76 := Tryz.isAgg203
  z76 := Tryz.sizeOf203
  v76 := Tryz.zeroValue203
  t127 := Tryz.underlying216
  a127 := Tryz.isAgg216
  z127 := Tryz.sizeOf216
  v127 := Tryz.zeroValue216
  t164 := Tryz.underlying226
  a164 := Tryz.isAgg226
  z164 := Tryz.sizeOf226
  v164 := Tryz.zeroValue226 }
theorem layX156 : Builder.Extra Tryz.prog lay156_ren := {
  sizeBuilder := by kernel_rfl
  liesBuilder := by kernel_rfl
  t5 := Tryz.underlying5
  a5 := Tryz.isAgg5
  z5 := Tryz.sizeOf5
  v5 := Tryz.zeroValue5
  infoByte := by kernel_rfl
  cellsByte := by kernel_rfl
  sizeByte := by kernel_rfl
  neB5 := by decide }
def lay133_ren : Go.Shelf.Ren := ⟨fun | 133 => 159 | 128 => 175 | n => n, fun | 51 => 155 | 3 => 3 | 4 => 4 | 46 => 158 | 5 => 5 | 9 => 9 | n => n, fun | n => n⟩
theorem lay133 : Go.Proofs.Lays.n133 Tryz.prog lay133_ren := {
  mixed := by kernel_rfl
  f128 := Tryz.func175.trans (congrArg some (by kernel_rfl))
  f133 := Tryz.func159.trans (congrArg some (by kernel_rfl))
  t3 := Tryz.underlying3
  a3 := Tryz.isAgg3
  z3 := Tryz.sizeOf3
  v3 := Tryz.zeroValue3
  t4 := Tryz.underlying4
  a4 := Tryz.isAgg4
  z4 := Tryz.sizeOf4
  v4 := Tryz.zeroValue4
  t5 := Tryz.underlying5
  a5 := Tryz.isAgg5
  z5 := Tryz.sizeOf5
  v5 := Tryz.zeroValue5
  t9 := Tryz.underlying9
  a9 := Tryz.isAgg9
  z9 := Tryz.sizeOf9
  v9 := Tryz.zeroValue9
  t46 := Tryz.underlying158
  a46 := Tryz.isAgg158
  z46 := Tryz.sizeOf158
  v46 := Tryz.zeroValue158
  t51 := Tryz.underlying155
  a51 := Tryz.isAgg155
  z51 := Tryz.sizeOf155
  v51 := Tryz.zeroValue155 }
def lay283_ren : Go.Shelf.Ren := ⟨fun | 283 => 192 | n => n, fun | 3 => 3 | 9 => 9 | 4 => 4 | n => n, fun | n => n⟩
theorem lay283 : Go.Proofs.Lays.n283 Tryz.prog lay283_ren := {
  mixed := by kernel_rfl
  f283 := Tryz.func192.trans (congrArg some (by kernel_rfl))
  t3 := Tryz.underlying3
  a3 := Tryz.isAgg3
  z3 := Tryz.sizeOf3
  v3 := Tryz.zeroValue3
  t4 := Tryz.underlying4
  a4 := Tryz.isAgg4
  z4 := Tryz.sizeOf4
  v4 := Tryz.zeroValue4
  t9 := Tryz.underlying9
  a9 := Tryz.isAgg9
  z9 := Tryz.sizeOf9
  v9 := Tryz.zeroValue9 }
def lay284_ren : Go.Shelf.Ren := ⟨fun | 284 => 193 | 129 => 204 | 317 => 203 | 318 => 205 | n => n, fun | 53 => 124 | 3 => 3 | 212 => 223 | 0 => 0 | 4 => 4 | 46 => 158 | 5 => 5 | 9 => 9 | n => n, fun | 17 => 3 | n => n⟩
theorem lay284 : Go.Proofs.LaysM.n284 Tryz.prog lay284_ren := {
  mixed := by kernel_rfl
  f129 := Tryz.func204.trans (congrArg some (by kernel_rfl))
  f284 := Tryz.func193.trans (congrArg some (by kernel_rfl))
  f317 := Tryz.func203.trans (congrArg some (by kernel_rfl))
  f318 := Tryz.func205.trans (congrArg some (by kernel_rfl))
  t0 := Tryz.underlying0
  a0 := Tryz.isAgg0
  z0 := Tryz.sizeOf0
  v0 := Tryz.zeroValue0
  t3 := Tryz.underlying3
  a3 := Tryz.isAgg3
  z3 := Tryz.sizeOf3
  v3 := Tryz.zeroValue3
  t4 := Tryz.underlying4
  a4 := Tryz.isAgg4
  z4 := Tryz.sizeOf4
  v4 := Tryz.zeroValue4
  t5 := Tryz.underlying5
  a5 := Tryz.isAgg5
  z5 := Tryz.sizeOf5
  v5 := Tryz.zeroValue5
  t9 := Tryz.underlying9
  a9 := Tryz.isAgg9
  z9 := Tryz.sizeOf9
  v9 := Tryz.zeroValue9
  t46 := Tryz.underlying158
  a46 := Tryz.isAgg158
  z46 := Tryz.sizeOf158
  v46 := Tryz.zeroValue158
  t53 := Tryz.underlying124
  a53 := Tryz.isAgg124
  z53 := Tryz.sizeOf124
  v53 := Tryz.zeroValue124
  t212 := Tryz.underlying223
  a212 := Tryz.isAgg223
  z212 := Tryz.sizeOf223
  v212 := Tryz.zeroValue223
  g17 := by kernel_rfl
  i0 := by kernel_rfl
  i3 := by kernel_rfl
  i4 := by kernel_rfl
  i5 := by kernel_rfl
  i9 := by kernel_rfl
  i46 := by kernel_rfl
  i53 := by kernel_rfl
  i212 := by kernel_rfl
  m17 := by kernel_rfl }
def lay285_ren : Go.Shelf.Ren := ⟨fun | 285 => 194 | n => n, fun | 37 => 37 | 53 => 124 | 3 => 3 | 4 => 4 | 51 => 155 | 9 => 9 | 5 => 5 | 0 => 0 | n => n, fun | n => n⟩
theorem lay285 : Go.Proofs.Lays.n285 Tryz.prog lay285_ren := {
  mixed := by kernel_rfl
  f285 := Tryz.func194.trans (congrArg some (by kernel_rfl))
  t0 := Tryz.underlying0
  a0 := Tryz.isAgg0
  z0 := Tryz.sizeOf0
  v0 := Tryz.zeroValue0
  t3 := Tryz.underlying3
  a3 := Tryz.isAgg3
  z3 := Tryz.sizeOf3
  v3 := Tryz.zeroValue3
  t4 := Tryz.underlying4
  a4 := Tryz.isAgg4
  z4 := Tryz.sizeOf4
  v4 := Tryz.zeroValue4
  t5 := Tryz.underlying5
  a5 := Tryz.isAgg5
  z5 := Tryz.sizeOf5
  v5 := Tryz.zeroValue5
  t9 := Tryz.underlying9
  a9 := Tryz.isAgg9
  z9 := Tryz.sizeOf9
  v9 := Tryz.zeroValue9
  t37 := Tryz.underlying37
  a37 := Tryz.isAgg37
  z37 := Tryz.sizeOf37
  v37 := Tryz.zeroValue37
  t51 := Tryz.underlying155
  a51 := Tryz.isAgg155
  z51 := Tryz.sizeOf155
  v51 := Tryz.zeroValue155
  t53 := Tryz.underlying124
  a53 := Tryz.isAgg124
  z53 := Tryz.sizeOf124
  v53 := Tryz.zeroValue124 }
def layPu14_ren : Go.Shelf.Ren := ⟨fun | 14 => 150 | 16 => 173 | 17 => 174 | 19 => 186 | 20 => 187 | 21 => 188 | 22 => 189 | 23 => 190 | 24 => 191 | 25 => 200 | 27 => 202 | 26 => 201 | 28 => 210 | 29 => 213 | 30 => 192 | 31 => 193 | 32 => 194 | 33 => 195 | 35 => 204 | 34 => 203 | 36 => 205 | 37 => 206 | 38 => 207 | 39 => 211 | 40 => 212 | n => n, fun | 9 => 9 | 3 => 3 | 22 => 124 | 24 => 170 | 25 => 171 | 4 => 4 | 34 => 206 | 5 => 5 | 36 => 158 | 37 => 37 | 0 => 0 | 39 => 208 | 21 => 21 | 44 => 220 | 47 => 216 | 50 => 231 | 48 => 229 | 2 => 2 | 52 => 211 | 55 => 214 | 59 => 223 | 60 => 155 | 20 => 20 | 61 => 224 | 65 => 233 | 66 => 234 | 67 => 162 | n => n, fun | 0 => 1 | 1 => 2 | 2 => 3 | 3 => 4 | 4 => 5 | n => n⟩
theorem layPu14 : Go.Proofs.LaysPu.n14 Tryz.prog layPu14_ren := {
  mixed := by kernel_rfl
  f14 := Tryz.func150.trans (congrArg some (by kernel_rfl))
  f16 := Tryz.func173.trans (congrArg some (by kernel_rfl))
  f17 := Tryz.func174.trans (congrArg some (by kernel_rfl))
  f19 := Tryz.func186.trans (congrArg some (by kernel_rfl))
  f20 := Tryz.func187.trans (congrArg some (by kernel_rfl))
  f21 := Tryz.func188.trans (congrArg some (by kernel_rfl))
  f22 := Tryz.func189.trans (congrArg some (by kernel_rfl))
  f23 := Tryz.func190.trans (congrArg some (by kernel_rfl))
  f24 := Tryz.func191.trans (congrArg some (by kernel_rfl))
  f25 := Tryz.func200.trans (congrArg some (by kernel_rfl))
  f26 := Tryz.func201.trans (congrArg some (by kernel_rfl))
  f27 := Tryz.func202.trans (congrArg some (by kernel_rfl))
  f28 := Tryz.func210.trans (congrArg some (by kernel_rfl))
  f29 := Tryz.func213.trans (congrArg some (by kernel_rfl))
  f30 := Tryz.func192.trans (congrArg some (by kernel_rfl))
  f31 := Tryz.func193.trans (congrArg some (by kernel_rfl))
  f32 := Tryz.func194.trans (congrArg some (by kernel_rfl))
  f33 := Tryz.func195.trans (congrArg some (by kernel_rfl))
  f34 := Tryz.func203.trans (congrArg some (by kernel_rfl))
  f35 := Tryz.func204.trans (congrArg some (by kernel_rfl))
  f36 := Tryz.func205.trans (congrArg some (by kernel_rfl))
  f37 := Tryz.func206.trans (congrArg some (by kernel_rfl))
  f38 := Tryz.func207.trans (congrArg some (by kernel_rfl))
  f39 := Tryz.func211.trans (congrArg some (by kernel_rfl))
  f40 := Tryz.func212.trans (congrArg some (by kernel_rfl))
  t0 := Tryz.underlying0
  a0 := Tryz.isAgg0
  z0 := Tryz.sizeOf0
  v0 := Tryz.zeroValue0
  i0 := by kernel_rfl
  t2 := Tryz.underlying2
  a2 := Tryz.isAgg2
  z2 := Tryz.sizeOf2
  v2 := Tryz.zeroValue2
  i2 := by kernel_rfl
  t3 := Tryz.underlying3
  a3 := Tryz.isAgg3
  z3 := Tryz.sizeOf3
  v3 := Tryz.zeroValue3
  i3 := by kernel_rfl
  t4 := Tryz.underlying4
  a4 := Tryz.isAgg4
  z4 := Tryz.sizeOf4
  v4 := Tryz.zeroValue4
  i4 := by kernel_rfl
  t5 := Tryz.underlying5
  a5 := Tryz.isAgg5
  z5 := Tryz.sizeOf5
  v5 := Tryz.zeroValue5
  i5 := by kernel_rfl
  t9 := Tryz.underlying9
  a9 := Tryz.isAgg9
  z9 := Tryz.sizeOf9
  v9 := Tryz.zeroValue9
  i9 := by kernel_rfl
  t20 := Tryz.underlying20
  a20 := Tryz.isAgg20
  z20 := Tryz.sizeOf20
  v20 := Tryz.zeroValue20
  i20 := by kernel_rfl
  t21 := Tryz.underlying21
  a21 := Tryz.isAgg21
  z21 := Tryz.sizeOf21
  v21 := Tryz.zeroValue21
  i21 := by kernel_rfl
  t22 := Tryz.underlying124
  a22 := Tryz.isAgg124
  z22 := Tryz.sizeOf124
  v22 := Tryz.zeroValue124
  i22 := by kernel_rfl
  t24 := Tryz.underlying170
  a24 := Tryz.isAgg170
  z24 := Tryz.sizeOf170
  v24 := Tryz.zeroValue170
  i24 := by kernel_rfl
  t25 := Tryz.underlying171
  a25 := Tryz.isAgg171
  z25 := Tryz.sizeOf171
  v25 := Tryz.zeroValue171
  i25 := by kernel_rfl
  t34 := Tryz.underlying206
  a34 := Tryz.isAgg206
  z34 := Tryz.sizeOf206
  v34 := Tryz.zeroValue206
  i34 := by kernel_rfl
  c34 := by kernel_rfl
  t36 := Tryz.underlying158
  a36 := Tryz.isAgg158
  z36 := Tryz.sizeOf158
  v36 := Tryz.zeroValue158
  i36 := by kernel_rfl
  t37 := Tryz.underlying37
  a37 := Tryz.isAgg37
  z37 := Tryz.sizeOf37
  v37 := Tryz.zeroValue37
  i37 := by kernel_rfl
  t39 := Tryz.underlying208
  a39 := Tryz.isAgg208
  z39 := Tryz.sizeOf208
  v39 := Tryz.zeroValue208
  i39 := by kernel_rfl
  t44 := Tryz.underlying220
  a44 := Tryz.isAgg220
  z44 := Tryz.sizeOf220
  v44 := Tryz.zeroValue220
  i44 := by kernel_rfl
  t47 := Tryz.underlying216
  a47 := Tryz.isAgg216
  z47 := Tryz.sizeOf216
  v47 := Tryz.zeroValue216
  i47 := by kernel_rfl
  t48 := Tryz.underlying229
  a48 := Tryz.isAgg229
  z48 := Tryz.sizeOf229
  v48 := Tryz.zeroValue229
  i48 := by kernel_rfl
  t50 := Tryz.underlying231
  a50 := Tryz.isAgg231
  z50 := Tryz.sizeOf231
  v50 := Tryz.zeroValue231
  i50 := by kernel_rfl
  t52 := Tryz.underlying211
  a52 := Tryz.isAgg211
  z52 := Tryz.sizeOf211
  v52 := Tryz.zeroValue211
  i52 := by kernel_rfl
  t55 := Tryz.underlying214
  a55 := Tryz.isAgg214
  z55 := Tryz.sizeOf214
  v55 := Tryz.zeroValue214
  i55 := by kernel_rfl
  t59 := Tryz.underlying223
  a59 := Tryz.isAgg223
  z59 := Tryz.sizeOf223
  v59 := Tryz.zeroValue223
  i59 := by kernel_rfl
  t60 := Tryz.underlying155
  a60 := Tryz.isAgg155
  z60 := Tryz.sizeOf155
  v60 := Tryz.zeroValue155
  i60 := by kernel_rfl
  t61 := Tryz.underlying224
  a61 := Tryz.isAgg224
  z61 := Tryz.sizeOf224
  t65 := Tryz.underlying233
  a65 := Tryz.isAgg233
  z65 := Tryz.sizeOf233
  v65 := Tryz.zeroValue233
  i65 := by kernel_rfl
  t66 := Tryz.underlying234
  a66 := Tryz.isAgg234
  z66 := Tryz.sizeOf234
  v66 := Tryz.zeroValue234
  i66 := by kernel_rfl
  t67 := Tryz.underlying162
  a67 := Tryz.isAgg162
  z67 := Tryz.sizeOf162
  v67 := Tryz.zeroValue162
  i67 := by kernel_rfl
  g0 := by kernel_rfl
  m0 := by kernel_rfl
  g1 := by kernel_rfl
  m1 := by kernel_rfl
  g2 := by kernel_rfl
  m2 := by kernel_rfl
  g3 := by kernel_rfl
  m3 := by kernel_rfl
  g4 := by kernel_rfl
  m4 := by kernel_rfl }
def lay219_ren : Go.Shelf.Ren := ⟨fun | 219 => 171 | 217 => 182 | 225 => 183 | 224 => 184 | 267 => 185 | 266 => 198 | 314 => 199 | n => n, fun | 9 => 9 | 3 => 3 | 4 => 4 | 5 => 5 | 46 => 158 | 146 => 193 | 51 => 155 | n => n, fun | 1 => 0 | n => n⟩
theorem lay219 : Go.Proofs.Lays.n219 Tryz.prog lay219_ren := {
  mixed := by kernel_rfl
  f217 := Tryz.func182.trans (congrArg some (by kernel_rfl))
  f219 := Tryz.func171.trans (congrArg some (by kernel_rfl))
  f224 := Tryz.func184.trans (congrArg some (by kernel_rfl))
  f225 := Tryz.func183.trans (congrArg some (by kernel_rfl))
  f266 := Tryz.func198.trans (congrArg some (by kernel_rfl))
  f267 := Tryz.func185.trans (congrArg some (by kernel_rfl))
  f314 := Tryz.func199.trans (congrArg some (by kernel_rfl))
  t3 := Tryz.underlying3
  a3 := Tryz.isAgg3
  z3 := Tryz.sizeOf3
  v3 := Tryz.zeroValue3
  t4 := Tryz.underlying4
  a4 := Tryz.isAgg4
  z4 := Tryz.sizeOf4
  v4 := Tryz.zeroValue4
  t5 := Tryz.underlying5
  a5 := Tryz.isAgg5
  z5 := Tryz.sizeOf5
  v5 := Tryz.zeroValue5
  t9 := Tryz.underlying9
  a9 := Tryz.isAgg9
  z9 := Tryz.sizeOf9
  v9 := Tryz.zeroValue9
  t46 := Tryz.underlying158
  a46 := Tryz.isAgg158
  z46 := Tryz.sizeOf158
  v46 := Tryz.zeroValue158
  t51 := Tryz.underlying155
  a51 := Tryz.isAgg155
  z51 := Tryz.sizeOf155
  v51 := Tryz.zeroValue155
  t146 := Tryz.underlying193
  a146 := Tryz.isAgg193
  z146 := Tryz.sizeOf193
  v146 := Tryz.zeroValue193
  g1 := by kernel_rfl }
def lay105_ren : Go.Shelf.Ren := ⟨fun | 105 => 163 | 212 => 146 | 99 => 177 | 165 => 178 | 166 => 179 | 170 => 180 | 169 => 181 | 263 => 169 | 264 => 170 | 206 => 172 | 240 => 196 | 241 => 197 | 276 => 208 | 277 => 209 | n => n, fun | 9 => 9 | 3 => 3 | 4 => 4 | 20 => 20 | 0 => 0 | 46 => 158 | 109 => 166 | 5 => 5 | 72 => 201 | 76 => 203 | 51 => 155 | 146 => 193 | 53 => 124 | 148 => 195 | 70 => 199 | 37 => 37 | 75 => 170 | 127 => 216 | 164 => 226 | 80 => 162 | n => n, fun | n => n⟩
theorem lay105 : Go.Proofs.Lays.n105 Tryz.prog lay105_ren := {
  mixed := by kernel_rfl
  f99 := Tryz.func177.trans (congrArg some (by kernel_rfl))
  f105 := Tryz.func163.trans (congrArg some (by kernel_rfl))
  f165 := Tryz.func178.trans (congrArg some (by kernel_rfl))
  f166 := Tryz.func179.trans (congrArg some (by kernel_rfl))
  f169 := Tryz.func181.trans (congrArg some (by kernel_rfl))
  f170 := Tryz.func180.trans (congrArg some (by kernel_rfl))
  f206 := Tryz.func172.trans (congrArg some (by kernel_rfl))
  f212 := Tryz.func146.trans (congrArg some (by kernel_rfl))
  f240 := Tryz.func196.trans (congrArg some (by kernel_rfl))
  f241 := Tryz.func197.trans (congrArg some (by kernel_rfl))
  f263 := Tryz.func169.trans (congrArg some (by kernel_rfl))
  f264 := Tryz.func170.trans (congrArg some (by kernel_rfl))
  f276 := Tryz.func208.trans (congrArg some (by kernel_rfl))
  f277 := Tryz.func209.trans (congrArg some (by kernel_rfl))
  t0 := Tryz.underlying0
  a0 := Tryz.isAgg0
  z0 := Tryz.sizeOf0
  v0 := Tryz.zeroValue0
  t3 := Tryz.underlying3
  a3 := Tryz.isAgg3
  z3 := Tryz.sizeOf3
  v3 := Tryz.zeroValue3
  t4 := Tryz.underlying4
  a4 := Tryz.isAgg4
  z4 := Tryz.sizeOf4
  v4 := Tryz.zeroValue4
  t5 := Tryz.underlying5
  a5 := Tryz.isAgg5
  z5 := Tryz.sizeOf5
  v5 := Tryz.zeroValue5
  t9 := Tryz.underlying9
  a9 := Tryz.isAgg9
  z9 := Tryz.sizeOf9
  v9 := Tryz.zeroValue9
  t20 := Tryz.underlying20
  a20 := Tryz.isAgg20
  z20 := Tryz.sizeOf20
  v20 := Tryz.zeroValue20
  t37 := Tryz.underlying37
  a37 := Tryz.isAgg37
  z37 := Tryz.sizeOf37
  v37 := Tryz.zeroValue37
  t46 := Tryz.underlying158
  a46 := Tryz.isAgg158
  z46 := Tryz.sizeOf158
  v46 := Tryz.zeroValue158
  t51 := Tryz.underlying155
  a51 := Tryz.isAgg155
  z51 := Tryz.sizeOf155
  v51 := Tryz.zeroValue155
  t53 := Tryz.underlying124
  a53 := Tryz.isAgg124
  z53 := Tryz.sizeOf124
  v53 := Tryz.zeroValue124
  t70 := Tryz.underlying199
  a70 := Tryz.isAgg199
  z70 := Tryz.sizeOf199
  v70 := Tryz.zeroValue199
  t72 := Tryz.underlying201
  a72 := Tryz.isAgg201
  z72 := Tryz.sizeOf201
  v72 := Tryz.zeroValue201
  t75 := Tryz.underlying170
  a75 := Tryz.isAgg170
  z75 := Tryz.sizeOf170
  v75 := Tryz.zeroValue170
  t76 := Tryz.underlying203
  a76 := Tryz.isAgg203
  z76 := Tryz.sizeOf203
  v76 := Tryz.zeroValue203
  t109 := Tryz.underlying166
  a109 := Tryz.isAgg166
  z109 := Tryz.sizeOf166
  v109 := Tryz.zeroValue166
  t127 := Tryz.underlying216
  a127 := Tryz.isAgg216
  z127 := Tryz.sizeOf216
  v127 := Tryz.zeroValue216
  t146 := Tryz.underlying193
  a146 := Tryz.isAgg193
  z146 := Tryz.sizeOf193
  v146 := Tryz.zeroValue193
  t148 := Tryz.underlying195
  a148 := Tryz.isAgg195
  z148 := Tryz.sizeOf195
  v148 := Tryz.zeroValue195
  t164 := Tryz.underlying226
  a164 := Tryz.isAgg226
  z164 := Tryz.sizeOf226
  v164 := Tryz.zeroValue226 }
theorem layX105 : Builder.Extra Tryz.prog lay105_ren := {
  sizeBuilder := by kernel_rfl
  liesBuilder := by kernel_rfl
  t5 := Tryz.underlying5
  a5 := Tryz.isAgg5
  z5 := Tryz.sizeOf5
  v5 := Tryz.zeroValue5
  infoByte := by kernel_rfl
  cellsByte := by kernel_rfl
  sizeByte := by kernel_rfl
  neB5 := by decide }
end Go.Proofs
/- strconv.FormatUint to the base 10: the decimal numeral. -/
namespace Go.Proofs
open Go.Shelf Go.RowKit Go.Sort Go.Lib
abbrev encB : UInt8 → Value := fun b => Value.int .u8 (b.toNat : Int)
theorem zeros_row (w : World) (T : TypeId) (nd : Nat) (hs : nd ≤ 24) : Holds encB (w.alloc (.cells Lib.zeros24 T)) w.heap.size 0 (Array.replicate nd (0 : UInt8)) := fun j hj => by
  have hj' : j < nd := by simpa using hj
  refine ⟨?_, World.frozen?_alloc_new _ _ _ _⟩
  rw [World.cell?_alloc_new, Lib.zeros24_at _ (by omega), getElem!_pos _ j hj]
  simp
theorem below_row (w : World) (o : Obj) (dk : Array UInt8) (k : Nat) : Below w.heap.size w ((putRow encB (w.alloc o) w.heap.size 0 dk).drewN k) := by
  rw [alloc_eq_grow]
  obtain ⟨os', _, e⟩ := putRow_grow_new encB w #[o] w.heap.size 0 dk (Nat.le_refl _)
  rw [e]
  refine ⟨rfl, rfl, rfl, by show w.heap.size ≤ (w.heap ++ os').size; simp, fun i hi => ?_⟩
  show (w.heap ++ os')[i]? = _
  rw [Array.getElem?_append_left hi]
set_option maxHeartbeats 6400000 in
set_option maxRecDepth 100000 in
theorem fmt_in (u : Nat) (hu64 : u < 18446744073709551616) (w : World) (htab : Lib.TabIs Tryz.prog w "internal/strconv.uint64pow10" .u64 Lib.pow10Tab) :
    Calls Tryz.prog 176 #[.int .u64 u, .int .i64 10] w fun e w' => e = .returned (.string ⟨(Lib.decDigits u).toArray⟩) ∧ Below w.heap.size w w' := by
  by_cases hs : u < 100
  · go_enter Tryz.func176, Tryz.ntmps176
    go_wp2_with (go_at_call 192; refine (Any.internal_strconv_small lay283 u hs _).mono ?_; rintro e w' ⟨rfl, rfl⟩)
    go_ret
    exact ⟨rfl, Below.refl _ _⟩
  · have hu1 : 1 ≤ u := by omega
    have hnd20 : Lib.nDigits u ≤ 20 := by have := Lib.numDigits_eq u hu1 hu64; split at this <;> omega
    have hH0 := zeros_row w 211 (Lib.nDigits u) (by omega)
    have hfmt := Any.internal_strconv_formatBase10 lay285 w.heap.size 0 24 u (Array.replicate (Lib.nDigits u) 0) (w.alloc (.cells Lib.zeros24 211)) hH0 (by rw [Array.size_replicate]; exact Lib.lt_pow_nDigits u) hu64 (by rw [Array.size_replicate]; omega)
    rw [Array.size_replicate] at hfmt
    have HH0 := Lib.hid hH0
    have hal : Tryz.prog.arrayLen 211 = 24 := by simp [Program.arrayLen, Tryz.underlying211]
    have hsl : ∀ W, (Instr.sliceAt 211 (.pointer (some ⟨w.heap.size, 0, none⟩)) none (some (.int .i64 (Lib.nDigits u : Int))) none).run Tryz.prog W = .ok (.slice (some ⟨w.heap.size, 0, none⟩) (Lib.nDigits u) 24) W := fun W => by
      rw [run_sliceAt_array_h W 211 ⟨w.heap.size, 0, none⟩ (by simp [Program.arrayLen, Program.elem, Tryz.underlying211]) .i64 (Lib.nDigits u : Int) (by omega) (by rw [hal]; omega)]
      go_simp
    clear hH0 hal
    go_enter Tryz.func176, Tryz.ntmps176
    go_wp2_with (first
      | (go_at_call 193; refine (Any.internal_strconv_numDigits lay284 u hu1 hu64 _ (Lib.tabIs_alloc htab _)).mono ?_; rintro e w' ⟨rfl, rfl⟩))
    go_at_call 194
    refine hfmt.mono ?_
    rintro e w' ⟨rfl, k, v', dk, rfl, hF⟩
    have hcv : (convert 37 9 (.slice (some ⟨w.heap.size, 0, none⟩) (Lib.nDigits u) 24)).run Tryz.prog ((putRow encB (w.alloc (.cells Lib.zeros24 211)) w.heap.size 0 dk).drewN k) = .ok (.string ⟨(Lib.decDigits u).toArray⟩) ((putRow encB (w.alloc (.cells Lib.zeros24 211)) w.heap.size 0 dk).drewN k) := by
      have h := run_convert_bytes_back (P := Tryz.prog) ((putRow encB (w.alloc (.cells Lib.zeros24 211)) w.heap.size 0 dk).drewN k) 37 9 5 ⟨w.heap.size, 0, none⟩ 24 (Lib.decDigits u) Tryz.underlying37 Tryz.underlying5 Tryz.underlying9 (fun j hj => by
        rw [Lib.row_is_numeral hF j hj, Lib.add_plain, World.cell?_drewN]
        exact cell?_putRow encB _ w.heap.size 0 _ dk HH0.out (by rw [hF.size, Array.size_replicate]) j (by rw [hF.size]; rw [Lib.decDigits_length] at hj; exact hj))
      rw [Lib.decDigits_length] at h
      exact h
    go_wp2
    go_ret
    exact ⟨rfl, below_row w _ dk k⟩
theorem fmt_uint (u : Nat) (hu64 : u < 18446744073709551616) (w : World) (htab : Lib.TabIs Tryz.prog w "internal/strconv.uint64pow10" .u64 Lib.pow10Tab) :
    Calls Tryz.prog 162 #[.int .u64 u, .int .i64 10] w fun e w' => e = .returned (.string ⟨(Lib.decDigits u).toArray⟩) ∧ Below w.heap.size w w' := by
  go_enter Tryz.func162, Tryz.ntmps162
  go_wp2_with (go_at_call 176; refine (fmt_in u hu64 _ htab).mono ?_; rintro e w' ⟨rfl, hb⟩)
  go_ret
  exact ⟨rfl, hb⟩
end Go.Proofs
/- The library's functions that are told from outside do what is told of them. -/
namespace Go.PM
open Go.Proofs Go.RowKit
theorem Below.prim {w w' : World} (h : Below w.heap.size w w') : w.heap.size ≤ w'.heap.size ∧ (∀ rb, rb < w.heap.size → w'.heap[rb]? = w.heap[rb]?) ∧ w'.os = w.os ∧ w'.output = w.output ∧ w'.tape = w.tape :=
  ⟨h.size, h.block, h.os, h.output, h.tape⟩
theorem prim_same {w : World} : w.heap.size ≤ w.heap.size ∧ (∀ rb, rb < w.heap.size → w.heap[rb]? = w.heap[rb]?) ∧ w.os = w.os ∧ w.output = w.output ∧ w.tape = w.tape :=
  ⟨Nat.le_refl _, fun _ _ => rfl, rfl, rfl, rfl⟩
def OnePrim (f : Nat) (p : List Value → Heap → Option Value) : Prop :=
  CallOk Tryz.prog f ∧ ∀ L0 args H v, p args H = some v → ∀ m w rargs, Rel m L0 H w → RL m args rargs →
    Calls Tryz.prog f rargs.toArray w fun e w' => ∃ rv, e = .returned rv ∧ RV m v rv ∧ w.heap.size ≤ w'.heap.size ∧ (∀ rb, rb < w.heap.size → w'.heap[rb]? = w.heap[rb]?) ∧ w'.os = w.os ∧ w'.output = w.output ∧ w'.tape = w.tape
theorem RL.one {m : PMap} {x : Value} {ys : List Value} (h : RL m [x] ys) : ∃ y, ys = [y] ∧ RV m x y := by
  match ys, h with
  | [y], h => exact ⟨y, rfl, h.uncons.1⟩
  | [], h => exact absurd h.1 (by simp)
  | _ :: _ :: _, h => exact absurd h.1 (by simp)
theorem RL.two {m : PMap} {x x' : Value} {ys : List Value} (h : RL m [x, x'] ys) : ∃ y y', ys = [y, y'] ∧ RV m x y ∧ RV m x' y' := by
  match ys, h with
  | [y, y'], h => exact ⟨y, y', rfl, h.uncons.1, h.uncons.2.uncons.1⟩
  | [], h => exact absurd h.1 (by simp)
  | [_], h => exact absurd h.1 (by simp)
  | _ :: _ :: _ :: _, h => exact absurd h.1 (by simp)
theorem RL.three {m : PMap} {x x' x'' : Value} {ys : List Value} (h : RL m [x, x', x''] ys) : ∃ y y' y'', ys = [y, y', y''] ∧ RV m x y ∧ RV m x' y' ∧ RV m x'' y'' := by
  match ys, h with
  | [y, y', y''], h => exact ⟨y, y', y'', rfl, h.uncons.1, h.uncons.2.uncons.1, h.uncons.2.uncons.2.uncons.1⟩
  | [], h => exact absurd h.1 (by simp)
  | [_], h => exact absurd h.1 (by simp)
  | [_, _], h => exact absurd h.1 (by simp)
  | _ :: _ :: _ :: _ :: _, h => exact absurd h.1 (by simp)
theorem strCells_spec {m : PMap} : ∀ {cs rs : List Value} {xs : List ByteArray}, strCells cs = some xs → RL m cs rs → rs = xs.map .string
  | [], rs, xs, h, hr => by
    cases h
    match rs, hr with
    | [], _ => rfl
    | _ :: _, hr => exact absurd hr.1 (by simp)
  | c :: cs, rs, xs, h, hr => by
    match rs, hr with
    | [], hr => exact absurd hr.1 (by simp)
    | r :: rs, hr =>
      obtain ⟨h1, h2⟩ := hr.uncons
      cases c with
      | string s =>
        rw [strCells] at h
        cases hc : strCells cs with
        | none => rw [hc] at h; cases h
        | some ys =>
          rw [hc] at h
          cases h
          cases h1
          rw [strCells_spec hc h2]
          rfl
      | _ => cases h
theorem one_leading : OnePrim 159 pLeading := by
  refine ⟨⟨_, Tryz.func159, by kernel_rfl, by kernel_rfl⟩, fun L0 args H v hp m w rargs hR hr => ?_⟩
  unfold pLeading at hp
  split at hp
  case h_2 => cases hp
  rename_i x
  split at hp
  case isFalse => cases hp
  rename_i hx
  cases hp
  obtain ⟨y, rfl, h1⟩ := hr.one
  cases h1
  refine (Any.bits_LeadingZeros32 lay133 x w hx.1 hx.2).mono ?_
  rintro e w' ⟨rfl, rfl⟩
  exact ⟨_, rfl, .int _ _, prim_same⟩
theorem one_repeat : OnePrim 163 pRepeat := by
  refine ⟨⟨_, Tryz.func163, by kernel_rfl, by kernel_rfl⟩, fun L0 args H v hp m w rargs hR hr => ?_⟩
  unfold pRepeat at hp
  split at hp
  case h_2 => cases hp
  rename_i s c
  split at hp
  case isFalse => cases hp
  rename_i hx
  cases hp
  obtain ⟨y, y', rfl, h1, h2⟩ := hr.two
  cases h1
  cases h2
  obtain ⟨k, rfl⟩ : ∃ k : Nat, c = k := ⟨c.toNat, by omega⟩
  refine (Any.strings_Repeat lay105 layX105 s k w (by omega) hx.2.2).mono ?_
  rintro e w' ⟨rfl, hb⟩
  exact ⟨_, rfl, .str _, Below.prim hb⟩
theorem one_join : OnePrim 165 pJoin := by
  refine ⟨⟨_, Tryz.func165, by kernel_rfl, by kernel_rfl⟩, fun L0 args H v hp m w rargs hR hr => ?_⟩
  unfold pJoin at hp
  split at hp
  case h_3 => cases hp
  · cases hp
    obtain ⟨y, y', rfl, h1, h2⟩ := hr.two
    cases h1
    cases h2
    refine (Any.strings_Join_none lay156 layX156 none 0 _ w).mono ?_
    rintro e w' ⟨rfl, rfl⟩
    exact ⟨_, rfl, .str _, prim_same⟩
  · rename_i b o n c sep
    obtain ⟨y, y', rfl, h1, h2⟩ := hr.two
    cases h2
    cases h1 with
    | slice _ _ _ _ l ra rc h hn hc hx ha =>
      split at hp
      · rename_i hn0
        subst hn0
        cases hp
        refine (Any.strings_Join_none lay156 layX156 (some ra) rc _ w).mono ?_
        rintro e w' ⟨rfl, rfl⟩
        exact ⟨_, rfl, .str _, prim_same⟩
      · rename_i hn0
        split at hp
        case h_2 => cases hp
        rename_i xs hxs
        split at hp
        case isFalse => cases hp
        rename_i hcond
        cases hp
        obtain ⟨cs, hrd, hcs⟩ := Option.bind_eq_some_iff.1 hxs
        obtain ⟨rs, r1, r2, _, r4⟩ := read_rel hR h hrd
        have hrs := strCells_spec hcs r1
        subst hrs
        rcases ha with ha | ⟨rfl, ha⟩
        · omega
        obtain ⟨arr, e0, fz0, v1, _⟩ := hR.valid b l h
        have hsz : l.rb < w.heap.size := (Array.getElem?_eq_some_iff.1 v1).1
        obtain ⟨c1, c2, c3, c4⟩ := hcond
        subst c1
        refine (Any.strings_Join lay156 layX156 l.rb (l.base + o) rc xs sep w (fun j x hj => ?_) hsz c3 (by omega) c4).mono ?_
        · have := r4 j (.string x) (by simp [hj])
          rw [Addr.add_lit] at this
          exact this
        · rintro e w' ⟨rfl, hb⟩
          exact ⟨_, rfl, .str _, Below.prim hb⟩
theorem tab_of_rel {m : PMap} {L0 : Nat} {H : Heap} {w : World} (hR : Rel m L0 H w) : Lib.TabIs Tryz.prog w "internal/strconv.uint64pow10" .u64 Lib.pow10Tab := by
  obtain ⟨e, fz, h⟩ := (hR.glob (3, (Lib.pow10Tab.map fun z => Value.int .u64 z).toArray) (by simp [gtab])).1
  have hg : Tryz.prog.globalNamed "internal/strconv.uint64pow10" = some 3 := by kernel_rfl
  unfold Lib.TabIs World.var?
  rw [hg]
  simp only [Option.bind_some, h]
theorem one_fmtu : OnePrim 162 pFormatUint := by
  refine ⟨⟨_, Tryz.func162, by kernel_rfl, by kernel_rfl⟩, fun L0 args H v hp m w rargs hR hr => ?_⟩
  unfold pFormatUint at hp
  split at hp
  case h_2 => cases hp
  rename_i n b
  split at hp
  case isFalse => cases hp
  rename_i hx
  cases hp
  obtain ⟨y, y', rfl, h1, h2⟩ := hr.two
  cases h1
  cases h2
  obtain ⟨rfl, h0, h1⟩ := hx
  obtain ⟨u, rfl⟩ : ∃ u : Nat, n = u := ⟨n.toNat, by omega⟩
  refine (fmt_uint u (by omega) w (tab_of_rel hR)).mono ?_
  rintro e w' ⟨rfl, hb⟩
  exact ⟨_, rfl, .str _, Below.prim hb⟩
theorem one_index : OnePrim 171 pIndex := by
  refine ⟨⟨_, Tryz.func171, by kernel_rfl, by kernel_rfl⟩, fun L0 args H v hp m w rargs hR hr => ?_⟩
  unfold pIndex at hp
  split at hp
  case h_2 => cases hp
  rename_i s p
  split at hp
  case h_2 => cases hp
  rename_i c hc
  cases hp
  obtain ⟨y, y', rfl, h1, h2⟩ := hr.two
  cases h1
  cases h2
  have hp : p = ⟨#[c]⟩ := by
    obtain ⟨a⟩ := p
    obtain ⟨l⟩ := a
    have : l = [c] := hc
    rw [this]
  subst hp
  refine (Any.stringslite_Index_one lay219 s c w).mono ?_
  rintro e w' ⟨rfl, rfl⟩
  exact ⟨_, rfl, .int _ _, prim_same⟩
theorem one_parse : OnePrim 150 pParseUint := by
  refine ⟨⟨_, Tryz.func150, by kernel_rfl, by kernel_rfl⟩, fun L0 args H v hp m w rargs hR hr => ?_⟩
  unfold pParseUint at hp
  split at hp
  case h_2 => cases hp
  rename_i s b z
  split at hp
  case isFalse => cases hp
  rename_i hx
  obtain ⟨rfl, rfl, hs⟩ := hx
  split at hp
  case h_2 => cases hp
  rename_i u hu
  cases hp
  obtain ⟨y, y', y'', rfl, h1, h2, h3⟩ := hr.three
  cases h1
  cases h2
  cases h3
  refine (Any.strconv_ParseUint_10_at64_ok layPu14 s hs u hu w).mono ?_
  have hv : ∀ m, RV m (.tuple #[.int .u64 (u : Int), .nilIface]) (.tuple #[.int .u64 (u : Int), .nilIface]) := fun m => .tuple _ _ rfl fun i hi => by
    match i, hi with
    | 0, _ => exact .int _ _
    | 1, _ => exact .nilIface
    | n + 2, hi => exact absurd hi (by simp)
  rintro e w' ⟨rfl, rfl | rfl⟩
  · exact ⟨_, rfl, hv m, prim_same⟩
  · exact ⟨_, rfl, hv m, Below.prim (Lib.bytesWorld_below _ _ _)⟩
theorem primOk {L0 : Nat} : PrimOk Tryz.prog cfg L0 := by
  intro f p hp
  have hp' : primV f = some p := hp
  unfold primV at hp'
  split at hp'
  · rename_i h; subst h; cases hp'; exact ⟨one_fmtu.1, one_fmtu.2 L0⟩
  split at hp'
  · rename_i h; subst h; cases hp'; exact ⟨one_repeat.1, one_repeat.2 L0⟩
  split at hp'
  · rename_i h; subst h; cases hp'; exact ⟨one_join.1, one_join.2 L0⟩
  split at hp'
  · rename_i h; subst h; cases hp'; exact ⟨one_leading.1, one_leading.2 L0⟩
  split at hp'
  · rename_i h; subst h; cases hp'; exact ⟨one_index.1, one_index.2 L0⟩
  split at hp'
  · rename_i h; subst h; cases hp'; exact ⟨one_parse.1, one_parse.2 L0⟩
  cases hp'
end Go.PM
/- From the statement's own words to the pure machine: what an argument reads as becomes a block of the pure machine; what the pure machine comes to is what the call comes to. -/
namespace Go.PM
open Go.ChangeShapes Go.WideShapes Go.ChangeAt Go.RowKit
open Go.Proofs
structure In (m : PMap) (H : Heap) (W : World) : Prop where
  dom : ∀ b l, m b = some l → b < H.length
  valid : ∀ b l, m b = some l → ∃ arr e fz, W.heap[l.rb]? = some (.cells arr e fz) ∧ arr.size = l.rsz
  row : ∀ b l cs e p, m b = some l → H[b]? = some (.row cs e p) → l.esz = e ∧ l.opn = p ∧ l.base + cs.length ≤ l.rsz ∧
    ∀ i, i < cs.length → ∃ rv, W.cell? ⟨l.rb, l.base + i, none⟩ = some rv ∧ RV m (cs.getD i Go.undef) rv ∧ PM.scal (cs.getD i Go.undef) = true
section
variable {m : PMap} {H : Heap} {W : World}
theorem In.empty : In (fun _ => none) [] W := ⟨fun _ _ h => (by cases h), fun _ _ h => (by cases h), fun _ _ _ _ _ h => (by cases h)⟩
theorem In.rel (h : In m H W) (hg : GlobIn W) : Rel m H.length H W :=
  ⟨fun b l hb => by
      obtain ⟨arr, e, fz, h1, h2⟩ := h.valid b l hb
      exact ⟨arr, e, fz, h1, h2, fun hl => by have := h.dom b l hb; omega⟩, h.row, fun b1 b2 l1 l2 hl h1 _ _ _ _ => by have := h.dom b1 l1 h1; omega, fun x hx => ⟨hg x hx, fun b l hb hm _ => by have := h.dom b l hm; omega⟩⟩
theorem In.unset (h : In m H W) {b : Nat} (hb : H.length ≤ b) : m b = none := by
  cases hm : m b with
  | none => rfl
  | some l => have := h.dom b l hm; omega
theorem In.add (h : In m H W) {rb base esz : Nat} {arr : Array Value} {e : TypeId} {fz : Nat × Nat} {cs : List Value} (hb : W.heap[rb]? = some (.cells arr e fz)) (hfit : base + cs.length ≤ arr.size)
    (hc : ∀ i, i < cs.length → ∃ rv, W.cell? ⟨rb, base + i, none⟩ = some rv ∧ RV (bindAt m H.length ⟨rb, base, esz, arr.size, false⟩) (cs.getD i Go.undef) rv ∧ PM.scal (cs.getD i Go.undef) = true) :
    In (bindAt m H.length ⟨rb, base, esz, arr.size, false⟩) (H ++ [.row cs esz false]) W := by
  have hn := h.unset (Nat.le_refl H.length)
  refine ⟨fun b l hbl => ?_, fun b l hbl => ?_, fun b l ds e' p hbl hrow => ?_⟩
  · by_cases he : b = H.length
    · subst he; simp
    · rw [bindAt_ne he] at hbl
      have := h.dom b l hbl
      simp; omega
  · by_cases he : b = H.length
    · subst he
      rw [bindAt_same] at hbl
      cases hbl
      exact ⟨arr, e, fz, hb, rfl⟩
    · rw [bindAt_ne he] at hbl
      exact h.valid b l hbl
  · by_cases he : b = H.length
    · subst he
      rw [bindAt_same] at hbl
      cases hbl
      rw [get_top] at hrow
      cases hrow
      exact ⟨rfl, rfl, hfit, hc⟩
    · rw [bindAt_ne he] at hbl
      have hlt := h.dom b l hbl
      rw [get_old hlt] at hrow
      obtain ⟨h1, h2, h3, h4⟩ := h.row b l ds e' p hbl hrow
      refine ⟨h1, h2, h3, fun i hi => ?_⟩
      obtain ⟨rv, g1, g2, g3⟩ := h4 i hi
      exact ⟨rv, g1, g2.mono (bindAt_ext hn), g3⟩
end
theorem list_of {α : Type} (p : Nat → α → Prop) : ∀ c, (∀ i, i < c → ∃ x, p i x) → ∃ xs : List α, xs.length = c ∧ ∀ i x, xs[i]? = some x → p i x
  | 0, _ => ⟨[], rfl, fun i x hx => by simp at hx⟩
  | c + 1, h => by
    obtain ⟨xs, h1, h2⟩ := list_of p c fun i hi => h i (by omega)
    obtain ⟨x, h3⟩ := h c (by omega)
    refine ⟨xs ++ [x], by simp [h1], fun i y hy => ?_⟩
    rcases Nat.lt_or_ge i xs.length with hi | hi
    · rw [List.getElem?_append_left hi] at hy
      exact h2 i y hy
    · rw [List.getElem?_append_right hi] at hy
      have hi0 : i - xs.length = 0 := by
        rcases Nat.eq_zero_or_pos (i - xs.length) with h | h
        · exact h
        · rw [List.getElem?_eq_none (by simp; omega)] at hy; cases hy
      rw [hi0] at hy
      cases hy
      have : i = c := by omega
      subst this
      exact h3
theorem open_slice {T : Type} {encT : TypeId × Value → T} {α : Type} {enc : α → List Value} {good : α → Prop} {P : Program} {W : World} {t e : TypeId} {esz base : Nat} (ht : P.underlying t = some (.slice e)) (hesz : P.cellsOf e = esz) (eok : EncOk enc esz)
    (hel : ∀ fuel cs y, DataW.trod encT P W 0 (fun _ => true) true fuel e cs = some y → ∃ x : α, cs = enc x ∧ good x) (hself : ∀ (m : PMap) x, good x → ∀ i, i < esz → RV m ((enc x).getD i Go.undef) ((enc x).getD i Go.undef))
    {v : Value} {d : DataW T} {ps : List MemPlace} (h : DataW.Trod encT P W 0 (fun _ => true) true t v d ps) (hv : Value.okWide P W .any base t v) {m : PMap} {H : Heap} (hI : In m H W) :
    ∃ (a pa : Option Addr) (n c : Nat) (xs : List α) (m' : PMap) (L : Heap), v = .slice a n c ∧ In m' (H ++ L) W ∧ (∀ b l, m b = some l → m' b = some l) ∧ RV m' (.slice pa n c) v ∧ Arr enc esz (H ++ L) pa n xs ∧ (∀ x ∈ xs, good x) ∧ n ≤ c ∧ (c = 0 ∨ ∃ el sp, d = .slice el sp ∧ el.length + sp.length = c) ∧ (pa = none ↔ a = none) ∧
      ((pa = none ∧ xs = [] ∧ n = 0 ∧ c = 0) ∨ ∃ b r p, pa = some ⟨b, 0, none⟩ ∧ (H ++ L)[b]? = some (.row r esz p) ∧ n * esz ≤ r.length ∧ r.take (n * esz) = xs.flatMap enc) := by
  obtain ⟨a, n, c, rfl⟩ := okWide_slice ht hv
  obtain ⟨fuel, hf⟩ := h
  have hcs : (Value.slice a n c).cells.toList = [.slice a n c] := rfl
  rw [hcs] at hf
  rcases DataW.trod_slice ht hf with ⟨h1, _⟩ | ⟨a', len, cap, elems, rest, k, _, h1, hd, _, hl, hm, hlen, hE, hR, _⟩
  · injection h1 with h1 _
    cases h1
    exact ⟨none, none, 0, 0, [], m, [], rfl, by simpa using hI, fun _ _ h => h, .snil, ⟨rfl, fun i x hx => by simp at hx⟩, fun x hx => by simp at hx, Nat.le_refl _, .inl rfl, Iff.rfl, .inl ⟨rfl, rfl, rfl, rfl⟩⟩
  · injection h1 with h1 _
    cases h1
    obtain ⟨hrl, hR⟩ := hR rfl
    have hcell : ∀ i, i < c → ∃ x : α, W.cells? 0 (a'.add (i * esz)) esz = some (enc x) ∧ good x := by
      intro i hi
      have key : ∃ y, (W.cells? 0 (a'.add (i * P.cellsOf e)) (P.cellsOf e)).bind (DataW.trod encT P W 0 (fun _ => true) true k e) = some y := by
        rcases Nat.lt_or_ge i n with hin | hin
        · exact ⟨elems[i]'(by omega), by rw [hE i hin]; exact List.getElem?_eq_getElem _⟩
        · have := hR (i - n) (by omega)
          rw [show n + (i - n) = i by omega] at this
          exact ⟨rest[i - n]'(by omega), by rw [this]; exact List.getElem?_eq_getElem _⟩
      obtain ⟨y, hy⟩ := key
      rw [Option.bind_eq_some_iff, hesz] at hy
      obtain ⟨cs, h1, h2⟩ := hy
      obtain ⟨x, rfl, hg⟩ := hel _ _ _ h2
      exact ⟨x, h1, hg⟩
    obtain ⟨xs, hxl, hx⟩ := list_of (fun i x => W.cells? 0 (a'.add (i * esz)) esz = some (enc x) ∧ good x) c hcell
    have hhas : W.has P .any base a' e c := by
      simp only [Value.okWide, ht, Cell.okWide, Cell.ok] at hv
      exact hv.2.2
    obtain ⟨_, hspot, row, ncells, hshape, _⟩ := hhas
    obtain ⟨rb, off, spot⟩ := a'
    simp only at hspot
    subst hspot
    obtain ⟨arr, e', fz, hblk⟩ : ∃ arr e' fz, W.heap[rb]? = some (.cells arr e' fz) := by
      unfold World.shape? at hshape
      split at hshape
      · rename_i arr e' fz hb; exact ⟨arr, e', fz, hb⟩
      · cases hshape
    have hflat := flat_len (xs := xs) eok
    have hcells : ∀ i, i < xs.length * esz → ∃ x, xs[i / esz]? = some x ∧ (xs.flatMap enc).getD i Go.undef = (enc x).getD (i % esz) Go.undef ∧ W.cell? ⟨rb, off + i, none⟩ = some ((enc x).getD (i % esz) Go.undef) ∧ good x := by
      intro i hi
      have hpos := eok.pos
      have hq : i / esz < xs.length := Nat.div_lt_of_lt_mul (by rw [Nat.mul_comm]; exact hi)
      have hr : i % esz < esz := Nat.mod_lt _ (by omega)
      have hx1 : xs[i / esz]? = some xs[i / esz] := List.getElem?_eq_getElem hq
      obtain ⟨h1, h2⟩ := hx _ _ hx1
      have h3 := (World.cells?_some h1).2.2 (i % esz) hr
      have hsum : i / esz * esz + i % esz = i := by rw [Nat.mul_comm]; exact Nat.div_add_mod i esz
      have hre : (enc xs[i / esz])[i % esz]? = some ((enc xs[i / esz]).getD (i % esz) Go.undef) := by
        rw [List.getD_eq_getElem?_getD, List.getElem?_eq_getElem (by rw [eok.len]; exact hr)]
        rfl
      refine ⟨xs[i / esz], hx1, ?_, ?_, h2⟩
      · have h4 : (xs.flatMap enc)[i]? = ((xs.flatMap enc).drop (i / esz * esz))[i % esz]? := by
          rw [List.getElem?_drop, hsum]
        rw [List.getD_eq_getElem?_getD, h4, flat_drop eok, List.drop_eq_getElem_cons hq, List.flatMap_cons, List.getElem?_append_left (by rw [eok.len]; exact hr), List.getD_eq_getElem?_getD]
      · rw [hre] at h3
        rw [← h3]
        have ha : ∀ o k : Nat, (⟨rb, o, none⟩ : Addr).add k = ⟨rb, o + k, none⟩ := by
          intro o k
          unfold Addr.add
          split
          · rename_i h0; subst h0; rfl
          · rfl
        rw [ha, ha, Nat.add_assoc, hsum]
    have hfit : (if c = 0 then 0 else off) + (xs.flatMap enc).length ≤ arr.size := by
      rw [hflat, hxl]
      split
      · rename_i h0; subst h0; simp
      · rename_i h0
        have hpos := eok.pos
        have hm1 : 1 ≤ c * esz := Nat.mul_pos (by omega) hpos
        obtain ⟨x, _, _, h3, _⟩ := hcells (c * esz - 1) (by rw [hxl]; omega)
        unfold World.cell? at h3
        simp only [hblk, Option.isSome_none, Bool.false_eq_true, if_false] at h3
        have := (Array.getElem?_eq_some_iff.1 h3).1
        omega
    have hadd := hI.add (esz := esz) (cs := xs.flatMap enc) (base := if c = 0 then 0 else off) hblk hfit (fun i hi => by
      rw [hflat] at hi
      obtain ⟨x, _, h2, h3, h4⟩ := hcells i hi
      have h0 : ¬ c = 0 := by
        intro h0
        rw [hxl, h0] at hi
        omega
      rw [if_neg h0, h2]
      have hr : i % esz < esz := Nat.mod_lt _ (by have := eok.pos; omega)
      refine ⟨_, h3, hself _ x h4 _ hr, ?_⟩
      have hsc := List.all_eq_true.1 (eok.sc x) ((enc x).getD (i % esz) Go.undef) (by
        rw [List.getD_eq_getElem?_getD, List.getElem?_eq_getElem (by rw [eok.len]; exact hr)]
        exact List.getElem_mem _)
      exact hsc)
    refine ⟨some ⟨rb, off, none⟩, some ⟨H.length, 0, none⟩, n, c, xs.take n, _, _, rfl, hadd, bindAt_ext (hI.unset (Nat.le_refl _)), ?_, ?_, fun x hxm => ?_, hl, .inr ⟨_, _, congrArg Prod.fst hd, by simp [hlen, hrl]; omega⟩, by simp, .inr ⟨H.length, xs.flatMap enc, false, rfl, by simp, ?_, flat_take eok n⟩⟩
    · refine .slice H.length 0 n c _ _ c (bindAt_same _ _ _) hl (Nat.le_refl _) (fun _ => rfl) ?_
      rcases Nat.eq_zero_or_pos c with h0 | h0
      · exact .inl h0
      · right
        rw [if_neg (by omega)]
        refine ⟨rfl, ?_⟩
        rw [if_neg (by omega), hflat, hxl] at hfit
        simpa using hfit
    · have hR : Row enc esz (H ++ [.row (xs.flatMap enc) esz false]) H.length false xs := Row.top
      exact hR.arr eok (by omega)
    · have hxm' := List.mem_of_mem_take hxm
      obtain ⟨i, hi⟩ := List.getElem?_of_mem hxm'
      exact (hx i x hi).2
    · rw [hflat, hxl]
      exact Nat.mul_le_mul_right _ hl
theorem cap_le {T : Type} {P : Program} {ts : List TypeId} {ds : List (DataW T)} (h : (DataW.weightsEach P ts ds).all (· ≤ reachBytes) = true) {j : Nat} {t e : TypeId} {d : DataW T} {c : Nat} (hc : c = 0 ∨ ∃ el sp, d = .slice el sp ∧ el.length + sp.length = c)
    (ht : ts[j]? = some t) (hd : ds[j]? = some d) (hu : P.underlying t = some (.slice e)) (hb : Nat.ble 1 (P.bytesOf e) = true) : c ≤ 140737488355328 := by
  rcases hc with rfl | ⟨el, sp, rfl, rfl⟩
  · omega
  · have h1 := sized_slice h ht hd hu
    have h2 : reachBytes < 2 ^ 47 := reachBytes_lt
    have h3 := Nat.le_of_ble_eq_true hb
    have h4 := Nat.mul_le_mul_left (el.length + sp.length) h3
    omega
theorem calls_pm {f : Nat} {args rargs : List Value} {H H' : Heap} {v : Value} {m : PMap} {W : World} (hI : In m H W) (hr : RL m args rargs) (h : pmCall f args H.length H = some (v, H')) (hg : GlobIn W := by first | assumption | exact fun x hx => nomatch hx) :
    Calls Tryz.prog f rargs.toArray W fun e W' => ∃ m' rv, e = .returned rv ∧ RV m' v rv ∧ Below W.heap.size W W' := by
  obtain ⟨n, hn⟩ := (call_iff cfg tab).1 h
  refine (callerSim Tryz.checked.mixed primOk tab_of n f args H.length H v H' hn m W rargs (hI.rel hg) (Nat.le_refl _) (Nat.le_refl _) hr (fun b hb _ => hI.unset hb)).2.mono ?_
  rintro e W' ⟨m', rv, rfl, h1, _, h3⟩
  refine ⟨m', rv, rfl, h1, ⟨h3.same.1, h3.same.2.2, h3.same.2.1, h3.size, fun k hk => h3.keep k hk fun b l hb hm _ => ?_⟩⟩
  rw [hI.unset hb] at hm
  cases hm
end Go.PM
/- The words of the chapter on paths. -/
namespace Go.PM
def custOk (c : Cust) : Prop := (0 ≤ c.t ∧ c.t ≤ 10000) ∧ (1 ≤ c.w ∧ c.w ≤ 1000) ∧ (0 ≤ c.k ∧ c.k ≤ 9)
instance (c : Cust) : Decidable (custOk c) := by unfold custOk; infer_instance
def custAt (cs : List Cust) (i : Nat) (c : Cust) : Prop := custOk c ∧ ∀ b, 0 < i → cs[i - 1]? = some b → b.t ≤ c.t
def custsOk (cs : List Cust) : Prop := (∀ i c, cs[i]? = some c → custAt cs i c) ∧ cs.length ≤ 24
noncomputable instance (cs : List Cust) : Decidable (custsOk cs) := Classical.propDecidable _
theorem custsOk.at {cs : List Cust} (h : custsOk cs) {i : Nat} {c : Cust} (hc : cs[i]? = some c) : (0 ≤ c.t ∧ c.t ≤ 10000) ∧ (1 ≤ c.w ∧ c.w ≤ 1000) ∧ (0 ≤ c.k ∧ c.k ≤ 9) := (h.1 i c hc).1
def wl (time : Int) : List Cust → Int → Int → Int
  | [], l, s => max (l - (time - s)) 0
  | c :: cs, l, s => if time < c.t then max (l - (time - s)) 0 else wl time cs (max (l - (c.t - s)) 0 + c.w) c.t
def wlOk (cs : List Cust) (time : Int) : Prop := custsOk cs ∧ (0 ≤ time ∧ time ≤ 1000000000)
noncomputable instance (cs : List Cust) (time : Int) : Decidable (wlOk cs time) := Classical.propDecidable _
def lvOk (cs : List Cust) (ls : List Int) : Prop := custsOk cs ∧ ls.length = cs.length ∧ ∀ x ∈ ls, 0 ≤ x ∧ x ≤ 1000000000
noncomputable instance (cs : List Cust) (ls : List Int) : Decidable (lvOk cs ls) := Classical.propDecidable _
def insOk (cs : List Cust) (ls : List Int) (time : Int) : Prop := lvOk cs ls ∧ (0 ≤ time ∧ time ≤ 1000000000)
noncomputable instance (cs : List Cust) (ls : List Int) (time : Int) : Decidable (insOk cs ls time) := Classical.propDecidable _
def ptOk (cs : List Cust) (ps : List Int) : Prop := custsOk cs ∧ ps.length = cs.length ∧ ∀ x ∈ ps, 0 ≤ x ∧ x ≤ 10000
noncomputable instance (cs : List Cust) (ps : List Int) : Decidable (ptOk cs ps) := Classical.propDecidable _
end Go.PM
/- The statements' arguments on customers, opened. -/
namespace Go.Proofs.YtbgfeiagaieljaaGreatDoor
open Go.ChangeShapes Go.WideShapes Go.ChangeAt Go.RowKit Go.PM
theorem own : ownKnob Tryz.prog.godebug = none := by kernel_rfl
theorem laidOut : laidOutB Tryz.prog = true := by kernel_rfl
theorem three {α : Type} {l : List α} (h : l.length = 3) : ∃ a b c, l = [a, b, c] := by
  rcases l with _ | ⟨a, _ | ⟨b, _ | ⟨c, _ | ⟨d, l⟩⟩⟩⟩
  · cases h
  · cases h
  · cases h
  · exact ⟨a, b, c, rfl⟩
  · simp at h
end Go.Proofs.YtbgfeiagaieljaaGreatDoor
/- The pure machine's form of functions, as the settings give it: LH. -/
namespace Go.PM
def laws_b10Long_c : PCode := (.seq (.reg [⟨(some 4), (.mv (.const (.bool false))), none, false, []⟩]) (.seq (.reg [⟨(some 5), (.mv (.tmp 0)), none, false, []⟩, ⟨(some 6), (.len (.tmp 5)), none, false, []⟩, ⟨(some 7), (.bin .gtr (.tmp 6) (.const (.int .i64 1048576))), none, false, []⟩, ⟨(some 8), (.mv (.tmp 7)), none, false, []⟩, ⟨(some 9), (.mv (.tmp 1)), (some (8, false)), false, []⟩, ⟨(some 10), (.len (.tmp 9)), (some (8, false)), false, []⟩, ⟨(some 11), (.bin .gtr (.tmp 10) (.const (.int .i64 1048576))), (some (8, false)), false, []⟩, ⟨(some 12), (.pick (.tmp 8) (.const (.bool true)) (.tmp 11)), none, false, []⟩, ⟨(some 4), (.mv (.tmp 12)), none, false, []⟩]) .ret))
def laws_b10Long : PFunc := ⟨13, [(.tmp 4)], laws_b10Long_c⟩
theorem laws_b10Long_t : tab 19 = some laws_b10Long := by kernel_rfl
end Go.PM
/- Which functions' calls are told with their rows. -/
namespace Go.PM
def raws : List Nat := []
 ++ [10]
 ++ [12]
 ++ [16]
 ++ [17]
 ++ [27]
 ++ [28]
 ++ [82]
 ++ [26]
 ++ [22]
 ++ [45]
 ++ [14]
 ++ [13]
 ++ [140]
 ++ [160]
 ++ [161]
 ++ [156]
 ++ [157]
 ++ [74]
 ++ [81]
 ++ [95]
 ++ [40]
 ++ [121]
 ++ [125]
 ++ [122]
 ++ [67]
 ++ [164]
 ++ [72]
 ++ [86]
 ++ [127]
 ++ [117]
 ++ [84]
 ++ [73]
 ++ [20]
 ++ [84]
 ++ [85]
 ++ [31]
end Go.PM
