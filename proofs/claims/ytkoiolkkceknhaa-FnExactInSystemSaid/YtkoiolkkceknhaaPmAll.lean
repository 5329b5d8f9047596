/- Every call of the pure machine that comes to an end is a call of the model. -/
import Derived.Test.YtkoiolkkceknhaaPmCall
namespace Go.PM

/-- What is asked of a function that is told by a law of its own: it makes nothing that counts, and writes nothing. -/
def PrimOk (P : Program) (E : Cfg) (L0 : Nat) : Prop :=
  ∀ f p, E.prim f = some p → CallOk P f ∧ ∀ args H v, p args H = some v → ∀ m w rargs, Rel m L0 H w → RL m args rargs →
    Calls P f rargs.toArray w fun e w' => ∃ rv, e = .returned rv ∧ RV m v rv ∧ w.heap.size ≤ w'.heap.size ∧ (∀ rb, rb < w.heap.size → w'.heap[rb]? = w.heap[rb]?) ∧ w'.os = w.os ∧ w'.output = w.output ∧ w'.tape = w.tape

theorem Rel.more {m : PMap} {L0 : Nat} {H : Heap} {w w' : World} (h : Rel m L0 H w) (hk : ∀ rb, rb < w.heap.size → w'.heap[rb]? = w.heap[rb]?) : Rel m L0 H w' := by
  have hv : ∀ b l, m b = some l → l.rb < w.heap.size := fun b l hb => by
    obtain ⟨arr, e, fz, h1, _⟩ := h.valid b l hb
    exact (Array.getElem?_eq_some_iff.1 h1).1
  refine ⟨fun b l hb => by rw [hk _ (hv b l hb)]; exact h.valid b l hb, fun b l cs e p hm hb => ?_, h.inj⟩
  obtain ⟨h1, h2, h3, h4⟩ := h.row b l cs e p hm hb
  refine ⟨h1, h2, h3, fun i hi => ?_⟩
  obtain ⟨rv, g1, g2⟩ := h4 i hi
  refine ⟨rv, ?_, g2⟩
  rw [← g1]
  unfold World.cell?
  simp only [hk _ (hv b l hm)]

theorem tab_spec {P : Program} {E : Cfg} {f : Nat} {pf : PFunc} (h : tabOf P E f = some pf) : ∃ fn c, P.funcs[f]? = some fn ∧ fn.body = some c ∧ (fn.name == "runtime.NumGoroutine") = false ∧ fn.results.toList.mapM (prepRes P) = some pf.res ∧ prepCode P E fn.ntmps c = some pf.body ∧ pf.ntmps = fn.ntmps := by
  unfold tabOf at h
  cases hf : P.funcs[f]? with
  | none => rw [hf] at h; cases h
  | some fn =>
    rw [hf] at h
    have h' : prepFunc P E fn = some pf := h
    unfold prepFunc at h'
    cases hb : fn.body with
    | none => rw [hb] at h'; cases h'
    | some c =>
      rw [hb] at h'
      simp only at h'
      split at h'
      · cases h'
      · rename_i hname
        split at h'
        · cases h'
        · rename_i res hres
          cases hc : prepCode P E fn.ntmps c with
          | none => rw [hc] at h'; cases h'
          | some body =>
            rw [hc] at h'
            cases h'
            refine ⟨fn, c, rfl, hb, by simpa using hname, ?_, hc, rfl⟩
            have e : (fun (r : ResultVar) => match r with
              | .tmp t => some (PRes.tmp t)
              | .cell t ty => (tinfo P ty).map fun (agg, size, _, _) => .cell t agg size) = prepRes P := by
              funext r
              cases r <;> rfl
            rw [← e]
            exact hres

theorem callerSim {P : Program} {E : Cfg} {L0 : Nat} (hmix : P.follows .mixedOrders = true) (hprim : PrimOk P E L0) : ∀ n, CallerSim P L0 (pcall E (tabOf P E) n)
  | 0 => fun f args lo H v H' h => by cases h
  | n + 1 => fun f args lo H v H' h m w rargs hR hlo hlen hra hf => by
    have hext := ext_pcall E (tabOf P E) n
    rw [pcall] at h
    split at h
    · rename_i p hp
      obtain ⟨hco, hlaw⟩ := hprim f p hp
      refine ⟨hco, ?_⟩
      cases hpv : p args H with
      | none => rw [hpv] at h; cases h
      | some u =>
        rw [hpv] at h
        cases h
        refine (hlaw args H v hpv m w rargs hR hra).mono ?_
        rintro e w' ⟨rv, rfl, h1, h2, h3, h4⟩
        exact ⟨m, rv, rfl, h1, hR.more h3, fun _ _ h => h, fun b l hb hn => (by rw [hb] at hn; cases hn), h2, fun rb hrb _ => h3 rb hrb, h4⟩
    · split at h
      · cases h
      · rename_i pf hpf
        obtain ⟨fn, c, h1, h2, h3, h4, h5, h6⟩ := tab_spec hpf
        split at h
        case isFalse => cases h
        rename_i hargs
        refine ⟨⟨fn, h1, h3, by rw [h2]; rfl⟩, calls_of_wp h1 h2 ?_⟩
        have hsz : rargs.toArray.size ≤ fn.ntmps := by
          have := hra.1
          simp; omega
        have hH : Here fn.ntmps L0 m (penv args) H { tmps := rargs.toArray ++ Array.replicate (fn.ntmps - rargs.toArray.size) undef, defers := [] } w := by
          refine ⟨by simp at hsz ⊢; omega, rfl, fun t => ?_, hR⟩
          rcases Nat.lt_or_ge t args.length with ht | ht
          · have h7 := hra.2 t ht
            have ht' : t < rargs.length := by rw [← hra.1]; exact ht
            have e : (rargs.toArray ++ Array.replicate (fn.ntmps - rargs.toArray.size) undef).getD t undef = rargs.getD t undef := by
              rw [Array.getD_eq_getD_getElem?, Array.getElem?_append_left (by simpa using ht')]
              simp
            show RV m (args.getD t undef) _
            rw [e]
            exact h7
          · have e1 : args.getD t undef = undef := by simp [List.getD_eq_getElem?_getD, List.getElem?_eq_none ht]
            have ht' : rargs.length ≤ t := by rw [← hra.1]; exact ht
            have e2 : (rargs.toArray ++ Array.replicate (fn.ntmps - rargs.toArray.size) undef).getD t undef = undef := by
              rw [Array.getD_eq_getD_getElem?, Array.getElem?_append_right (by simpa using ht')]
              rw [Array.getElem?_replicate]
              split <;> rfl
            show RV m (args.getD t undef) _
            rw [e1, e2]
            exact RV.undef m
        split at h
        · rename_i ρ1 H1 hrun
          cases hr : presult pf.res ρ1 H1 with
          | none => rw [hr] at h; cases h
          | some u =>
            rw [hr] at h
            cases h
            refine sim_code hmix (callerSim hmix hprim n) hext hlo n c pf.body h5 _ _ _ _ _ hrun m _ w hH hlen hf _ fun m' a' w' hh hT => ?_
            obtain ⟨rv, g1, g2⟩ := results_rel hh h4 hr
            exact ⟨hh.defs, rv, g2, m', rv, rfl, g1, hh.rel, hT⟩
        · rename_i ρ1 H1 hrun
          cases hr : presult pf.res ρ1 H1 with
          | none => rw [hr] at h; cases h
          | some u =>
            rw [hr] at h
            cases h
            refine sim_code hmix (callerSim hmix hprim n) hext hlo n c pf.body h5 _ _ _ _ _ hrun m _ w hH hlen hf _ fun m' a' w' hh hT => ?_
            obtain ⟨rv, g1, g2⟩ := results_rel hh h4 hr
            exact ⟨hh.defs, rv, g2, m', rv, rfl, g1, hh.rel, hT⟩
        · cases h

end Go.PM
