/- The pure machine's operations that look at values alone, third part: strings, places, all joined. -/
import Derived.Test.YtkoiolkkceknhaaPmSimB
namespace Go.PM

section
variable {P : Program} {m : PMap}

/-- Bounds, one there or none. -/
def RO (m : PMap) : Option Value → Option Value → Prop
  | none, none => True
  | some v, some r => RV m v r
  | _, _ => False

theorem run_bound {k : IntKind} {i : Int} {y : Nat} {code : BoundsCode} (h : 0 ≤ i ∧ i ≤ y) (w : World) : (Instr.sliceBound (.int k i) y code).run P w = .ok i.toNat w := by
  simp [Instr.sliceBound, asIntOf, h.1, h.2]

/-- A bound holds in the model, too, against any greater top. -/
theorem pbound_rel {v v' : Option Value} {d : Option Nat} {top k : Nat} (h : pbound v d top = some k) (hv : RO m v v') :
    (v = none ∧ v' = none ∧ d = some k) ∨ (∃ u r, v = some u ∧ v' = some r ∧ k ≤ top ∧ ∀ top', top ≤ top' → ∀ code w, (Instr.sliceBound r top' code).run P w = .ok k w) := by
  cases v with
  | none =>
    cases v' with
    | some r => exact hv.elim
    | none => exact .inl ⟨rfl, rfl, h⟩
  | some u =>
    cases v' with
    | none => exact hv.elim
    | some r =>
      have hr : RV m u r := hv
      refine .inr ⟨u, r, rfl, rfl, ?_⟩
      cases hr <;> simp only [pbound] at h <;> try (cases h; done)
      split at h
      · rename_i hb
        cases h
        exact ⟨by omega, fun top' ht code w => run_bound ⟨hb.1, by omega⟩ w⟩
      · cases h

theorem sim_ssub {t : TypeId} {s : ByteArray} {lo hi lo' hi' : Option Value} {l h : Nat} (hu : P.underlying t = some .string) (hs : psliceB lo hi s.size = some (l, h))
    (hl : RO m lo lo') (hh : RO m hi hi') (w : World) : (Instr.sliceAt t (.string s) lo' hi' none).run P w = .ok (.string (s.extract l h)) w := by
  have key : (Instr.sliceBounds false s.size s.size lo' hi' none).run P w = .ok (l, h, s.size) w := by
    unfold psliceB at hs
    cases h1 : pbound hi (some s.size) s.size with
    | none => rw [h1] at hs; cases hs
    | some h' =>
      rw [h1] at hs
      simp only at hs
      cases h2 : pbound lo (some 0) h' with
      | none => rw [h2] at hs; cases hs
      | some l' =>
        rw [h2] at hs
        cases hs
        rcases pbound_rel (P := P) h1 hh with ⟨_, rfl, e⟩ | ⟨_, r, _, rfl, _, hr⟩ <;> rcases pbound_rel (P := P) h2 hl with ⟨_, rfl, e'⟩ | ⟨_, r', _, rfl, _, hr'⟩
        · cases e; cases e'; rfl
        · cases e; simp [Instr.sliceBounds, hr' _ (Nat.le_refl _)]
        · cases e'; simp [Instr.sliceBounds, hr _ (Nat.le_refl _)]
        · simp [Instr.sliceBounds, hr _ (Nat.le_refl _), hr' _ (Nat.le_refl _)]
  have h1 : (Instr.sliceAt t (.string s) lo' hi' none).run P w = (Instr.slice t (.string s) lo' hi' none).run P w := by
    unfold Instr.sliceAt
    rw [Sem.run_bind, run_underlying hu, Result.andThen_ok]
  rw [h1]
  unfold Instr.slice
  rw [Sem.run_bind, run_underlying hu, Result.andThen_ok]
  simp [key]

theorem run_value {s : Sem Value} {v : Value} {w w' : World} (h : s.run P w = .ok v w') : (do pure (.value (← s)) : Sem Next).run P w = .ok (.value v) w' := by
  rw [Sem.run_bind, h]; rfl

theorem tinfo_spec {t : TypeId} {agg : Bool} {size : Nat} {z : List Value} {n : Nat} (h : tinfo P t = some (agg, size, z, n)) :
    ∃ i d zz, P.info? t = some i ∧ P.underlying t = some d ∧ i.zero = some zz ∧ agg = isAggD d ∧ size = i.size ∧ z = pcells zz ∧ n = i.bytes := by
  unfold tinfo at h
  split at h
  · rename_i i d hi hd
    split at h
    · rename_i zz hz
      cases h
      exact ⟨i, d, zz, hi, hd, hz, rfl, rfl, rfl, rfl⟩
    · cases h
  · cases h

theorem elemInfo_spec {t : TypeId} {agg : Bool} {size : Nat} {z : List Value} {n : Nat} (h : elemInfo P t = some (agg, size, z, n)) :
    ∃ e, P.underlying t = some (.slice e) ∧ tinfo P e = some (agg, size, z, n) := by
  unfold elemInfo at h
  split at h
  · rename_i e he; exact ⟨e, he, h⟩
  · cases h

theorem sim_iaddr {t e : TypeId} {i0 : TypeInfo} {b o n c : Nat} {k : IntKind} {i : Int} {r : Value} (hu : P.underlying t = some (.slice e)) (hi0 : P.info? e = some i0) (hr : RV m (.slice (some ⟨b, o, none⟩) n c) r) (h : 0 ≤ i ∧ i < n) :
    ∃ rv, RV m (.pointer (some ⟨b, o + i.toNat * i0.size, none⟩)) rv ∧ ∀ w, (Instr.indexAt t r (.int k i)).run P w = .ok rv w := by
  cases hr with
  | slice _ _ _ _ l ra rc hm hn hc hx ha =>
    rcases ha with ha | ⟨rfl, ha⟩
    · omega
    · have e1 : (⟨l.rb, l.base + o, none⟩ : Addr).add (i.toNat * i0.size) = ⟨l.rb, l.base + (o + i.toNat * i0.size), none⟩ := by
        unfold Addr.add
        split
        · rename_i h0; simp [h0]
        · simp [Nat.add_assoc]
      refine ⟨_, .ptr b _ l hm, fun w => ?_⟩
      simp [Instr.indexAt, asIntOf, run_underlying hu, h.1, h.2, run_sizeOf e i0 hi0, e1]

theorem sim_faddr {t : TypeId} {fs : Array Field} {f : Field} {j b o : Nat} {i0 : TypeInfo} {r : Value} (hu : P.underlying t = some (.struct fs)) (hf : fs[j]? = some f) (hi0 : P.info? f.type = some i0) (hs : i0.size ≠ 0)
    (hr : RV m (.pointer (some ⟨b, o, none⟩)) r) : ∃ rv, RV m (.pointer (some ⟨b, o + f.offset, none⟩)) rv ∧ ∀ w, (Instr.fieldAt t r j).run P w = .ok rv w := by
  cases hr with
  | ptr _ _ l hm =>
    have e1 : (⟨l.rb, l.base + o, none⟩ : Addr).add f.offset = ⟨l.rb, l.base + (o + f.offset), none⟩ := by
      unfold Addr.add
      split
      · rename_i h0; simp [h0]
      · simp [Nat.add_assoc]
    refine ⟨_, .ptr b _ l hm, fun w => ?_⟩
    unfold Instr.fieldAt
    rw [Sem.run_bind, run_underlying hu, Result.andThen_ok]
    simp [hf, Instr.sureAddr, fieldPlace, run_sizeOf f.type i0 hi0, hs, e1]

theorem sim_sidx {t : TypeId} {s : ByteArray} {k : IntKind} {i : Int} (hu : P.underlying t = some .string) (h : 0 ≤ i ∧ i < s.size) (w : World) :
    (Instr.index t (.string s) (.int k i)).run P w = .ok (.int .u8 ((s.data.toList.getD i.toNat 0).toNat : Int)) w := by
  have hlt : i.toNat < s.size := by omega
  have e : s[i.toNat]? = some s[i.toNat] := by simp [hlt]
  have e2 : s.data.toList.getD i.toNat 0 = s[i.toNat] := by
    have : i.toNat < s.data.toList.length := by simpa using hlt
    simp [List.getD_eq_getElem?_getD, List.getElem?_eq_getElem this]
    rfl
  unfold Instr.index
  rw [Sem.run_bind]
  simp only [asIntOf, Sem.run_pure, Result.andThen_ok, Sem.run_bind, run_underlying hu, h.1, if_true, e, e2]

end
end Go.PM
