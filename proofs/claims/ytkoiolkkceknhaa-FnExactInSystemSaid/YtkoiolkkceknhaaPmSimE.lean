/- The pure machine's operations that look at the heap, make memory, or write it: the model's operation comes to a related value and a related heap. -/
import Derived.Test.YtkoiolkkceknhaaPmHeap
namespace Go.PM

section
variable {P : Program} {m : PMap} {L0 : Nat} {H : Heap} {w : World}

def StepSim (P : Program) (s : Sem Next) (L0 lo : Nat) (m : PMap) (H : Heap) (w : World) (v : Value) (H' : Heap) : Prop :=
  ∃ rv w' m', (s.run P w = .ok (.value rv) w' ∨ (s.run P w = .ok .skip w' ∧ rv = undef)) ∧ RV m' v rv ∧ Rel m' L0 H' w' ∧ Trans lo m H w m' H' w'

theorem StepSim.value {s : Sem Value} {lo : Nat} {v rv : Value} {H' : Heap} {w' : World} {m' : PMap} (h : s.run P w = .ok rv w') (h1 : RV m' v rv) (h2 : Rel m' L0 H' w') (h3 : Trans lo m H w m' H' w') :
    StepSim P (do pure (.value (← s))) L0 lo m H w v H' := ⟨rv, w', m', .inl (run_value h), h1, h2, h3⟩

theorem read_spec {b o n : Nat} {cs : List Value} (h : H.read b o n = some cs) : ∃ all e p, H[b]? = some (.row all e p) ∧ o + n ≤ all.length ∧ cs = (all.drop o).take n ∧ cs.length = n := by
  unfold Heap.read at h
  split at h
  · rename_i all e p hb
    split at h
    · rename_i hle
      cases h
      exact ⟨all, e, p, hb, hle, rfl, by simp; omega⟩
    · cases h
  · cases h

/-- What the pure machine reads, the model reads. -/
theorem read_rel {b o n : Nat} {cs : List Value} {l : Loc} (hR : Rel m L0 H w) (hm : m b = some l) (h : H.read b o n = some cs) :
    ∃ rs : List Value, RL m cs rs ∧ rs.length = n ∧ cs.all scal = true ∧ ∀ j v, rs[j]? = some v → w.cell? ((⟨l.rb, l.base + o, none⟩ : Addr).add j) = some v := by
  obtain ⟨all, e, p, hb, hle, rfl, hn⟩ := read_spec h
  obtain ⟨g1, g2, g3, g4⟩ := hR.row b l all e p hm hb
  have hget : ∀ i, i < n → ((all.drop o).take n).getD i undef = all.getD (o + i) undef := fun i hi => by
    simp [List.getD_eq_getElem?_getD, List.getElem?_take_of_lt hi, List.getElem?_drop]
  refine ⟨(List.range n).map fun i => (w.cell? ⟨l.rb, l.base + (o + i), none⟩).getD undef, ⟨by simp; omega, fun i hi => ?_⟩, by simp, ?_, fun j v hj => ?_⟩
  · rw [hn] at hi
    rw [hget i hi]
    obtain ⟨rv, c1, c2, _⟩ := g4 (o + i) (by omega)
    simp [List.getD_eq_getElem?_getD, hi, c1]
    simpa [List.getD_eq_getElem?_getD] using c2
  · rw [List.all_eq_true]
    intro x hx
    obtain ⟨i, hi, rfl⟩ := List.getElem_of_mem hx
    rw [hn] at hi
    obtain ⟨_, _, _, c3⟩ := g4 (o + i) (by omega)
    rw [← hget i hi] at c3
    simpa [List.getD_eq_getElem?_getD, List.getElem?_eq_getElem (show i < ((all.drop o).take n).length by omega)] using c3
  · have hj' : j < n := by
      have := (List.getElem?_eq_some_iff.1 hj).1
      simpa using this
    obtain ⟨rv, c1, _, _⟩ := g4 (o + j) (by omega)
    simp [hj', c1] at hj
    subst hj
    rw [Addr.add_lit, Nat.add_assoc]
    exact c1

theorem pload_rel {t : TypeId} {agg : Bool} {size nb : Nat} {z : List Value} {pv rp v : Value} (ht : tinfo P t = some (agg, size, z, nb)) (hv : pload agg size pv H = some v) (hR : Rel m L0 H w) (hp : RV m pv rp) :
    ∃ rv, RV m v rv ∧ (Instr.loadAt t rp).run P w = .ok rv w := by
  obtain ⟨i, d, zz, hi, hd, _, rfl, rfl, _, _⟩ := tinfo_spec ht
  unfold pload at hv
  split at hv
  · rename_i b o
    cases hp with
    | ptr _ _ l hm =>
      have hrun : (Instr.loadAt t (.pointer (some ⟨l.rb, l.base + o, none⟩))).run P w = (loadVar t ⟨l.rb, l.base + o, none⟩).run P w := rfl
      split at hv
      · rename_i ha
        cases hr : H.read b o i.size with
        | none => rw [hr] at hv; cases hv
        | some cs =>
          rw [hr] at hv
          cases hv
          obtain ⟨rs, h1, h2, _, h3⟩ := read_rel hR hm hr
          refine ⟨.agg rs.toArray, RL.toAgg h1, ?_⟩
          rw [hrun]
          have := run_loadCells_list (P := P) w ⟨l.rb, l.base + o, none⟩ rs h3
          rw [h2] at this
          unfold loadVar
          simp [Sem.run_bind, run_isAgg t d hd, ha, run_sizeOf t i hi, this]
      · rename_i ha
        have ha' : isAggD d = false := by simpa using ha
        split at hv
        · rename_i x hr
          cases hv
          obtain ⟨rs, h1, h2, _, h3⟩ := read_rel hR hm hr
          obtain ⟨r, hrs⟩ : ∃ r, rs = [r] := by
            cases rs with
            | nil => cases h2
            | cons r rs => cases rs with
              | nil => exact ⟨r, rfl⟩
              | cons _ _ => simp at h2
          subst hrs
          have hc := h3 0 r rfl
          rw [Addr.add_zero'] at hc
          refine ⟨r, h1.uncons.1, ?_⟩
          rw [hrun]
          unfold loadVar
          simp [Sem.run_bind, run_isAgg t d hd, ha', hc]
        · cases hv
  · cases hv

/-- What is appended or copied. -/
theorem psource_rel {size n k : Nat} {pv rv : Value} {new : List Value} (hs : psource H size n pv = some new) (hk : plenOf pv = some k) (hnk : n ≤ k) (hR : Rel m L0 H w) (hp : RV m pv rv) :
    ∃ rnew : List Value, RL m new rnew ∧ new.all scal = true ∧ ∀ w', w'.heap = w.heap → (Builtin.firstCells size n rv).run P w' = .ok rnew.toArray w' := by
  unfold psource at hs
  split at hs
  · rename_i b o n' c
    cases hk
    cases hp with
    | slice _ _ _ _ l ra rc hm hn hc hx ha =>
      obtain ⟨rs, h1, h2, h2', h3⟩ := read_rel hR hm hs
      rcases ha with ha | ⟨rfl, ha⟩
      · -- nothing is there to be read
        have h0 : n = 0 := by omega
        subst h0
        have e0 : rs = [] := List.eq_nil_of_length_eq_zero (by simpa using h2)
        subst e0
        exact ⟨[], h1, h2', fun w' _ => run_firstCells_some (P := P) w' size 0 _ _ _ [] (by simp) fun j v hj => by cases hj⟩
      · refine ⟨rs, h1, h2', fun w' hw' => run_firstCells_some (P := P) w' size n _ _ _ rs h2 fun j v hj => ?_⟩
        rw [← h3 j v hj]
        exact cell_heap (by rw [hw'])
  · split at hs
    · rename_i hn
      cases hs
      cases hp
      exact ⟨[], RL.nil m, rfl, fun w' _ => run_firstCells_none w' size n _ _⟩
    · cases hs
  · rename_i s
    split at hs
    · cases hs
      cases hp
      refine ⟨_, RL.map (f := fun b : UInt8 => Value.int .u8 (b.toNat : Int)) (g := fun b : UInt8 => Value.int .u8 (b.toNat : Int)) (fun x _ => .int _ _), ?_, fun w' _ => ?_⟩
      · rw [List.all_eq_true]
        intro x hx
        obtain ⟨b, _, rfl⟩ := List.mem_map.1 hx
        rfl
      · simp only [Builtin.firstCells, Sem.run_pure]
        congr 1
        apply Array.ext'
        simp [ByteArray.data_extract]
    · cases hs
  · cases hs

/-- The model's append, in place. -/
theorem run_app_room {t u ty e : TypeId} {i : TypeInfo} {d : TypeDesc} (ht : P.underlying t = some (.slice e)) (hu : P.underlying u = some d) (hd : isAppD d = true) (hi : P.info? e = some i)
    {a : Addr} {n c k : Nat} {x : Value} {rnew : List Value} {w' : World} (hl : Builtin.lenOf x = pure k) (hf : (Builtin.firstCells i.size k x).run P w = .ok rnew.toArray w) (hroom : n + k ≤ c)
    (hst : (storeCells (a.add (n * i.size)) rnew).run P w = .ok () w') :
    (Builtin.append_ #[t, u] ty #[.slice (some a) n c, x]).run P w = .ok (.slice (some a) (n + k) c) w' := by
  cases d <;> first | (cases hd; done) | simp [Builtin.append_, run_underlying ht, run_underlying hu, run_sizeOf e i hi, hl, hf, hroom, hst]

theorem run_app_nil {t u ty e : TypeId} {i : TypeInfo} {d : TypeDesc} (ht : P.underlying t = some (.slice e)) (hu : P.underlying u = some d) (hd : isAppD d = true) (hi : P.info? e = some i)
    {x : Value} (hl : Builtin.lenOf x = pure 0) {rnew : List Value} (hf : (Builtin.firstCells i.size 0 x).run P w = .ok rnew.toArray w) :
    (Builtin.append_ #[t, u] ty #[.slice none 0 0, x]).run P w = .ok (.slice none 0 0) w := by
  cases d <;> first | (cases hd; done) | simp [Builtin.append_, run_underlying ht, run_underlying hu, run_sizeOf e i hi, hl, hf]

/-- The model's append, where it must grow. -/
theorem run_app_grow {t u ty e : TypeId} {i : TypeInfo} {d : TypeDesc} {z : Value} (ht : P.underlying t = some (.slice e)) (hu : P.underlying u = some d) (hd : isAppD d = true) (hi : P.info? e = some i) (hz : i.zero = some z)
    {base : Option Addr} {n c k : Nat} {x : Value} {olds rnew : List Value} (hl : Builtin.lenOf x = pure k) (hfo : (Builtin.firstCells i.size n (.slice base n c)).run P w.drew = .ok olds.toArray w.drew)
    (hf : (Builtin.firstCells i.size k x).run P w.drew = .ok rnew.toArray w.drew) (hg : c < n + k) (hb1 : 1 ≤ i.bytes) (hb : (n + k) * i.bytes ≤ 140737488355328) :
    (Builtin.append_ #[t, u] ty #[.slice base n c, x]).run P w = .ok (.slice (some ⟨w.heap.size, 0, none⟩) (n + k) (grownCap w (n + k) c e))
      (w.drew.alloc (.cells (olds.toArray ++ rnew.toArray ++ Builtin.zeroCells z.cells (grownCap w (n + k) c e - (n + k))) e)) := by
  have hfit := growslice_fits (bytes := i.bytes) hg hb
  have h1 : ¬ (n + k ≤ c) := by omega
  have h2 : ¬ (281474976710656 < Builtin.nextslicecap (n + k) c * i.bytes) := by omega
  have h3 : ¬ i.bytes = 0 := by omega
  cases d <;> first | (cases hd; done) | simp [Builtin.append_, run_underlying ht, run_underlying hu, run_sizeOf e i hi, typeInfo, zeroValue, hi, hz, hl, h1, h2, h3, Question.forced, hfo, hf, newRow, grownCap]
  all_goals
    congr 2
    apply Array.ext'
    simp

theorem addr_add (g o k : Nat) : (⟨g, o, none⟩ : Addr).add k = ⟨g, o + k, none⟩ := Addr.add_lit g o k

/-- What is appended, in either form, over what the model's own append does. -/
theorem pappend_rel {s : Sem Value} {lo size bytes add : Nat} {x rx v : Value} {new rnew : List Value} {H' : Heap} {e : TypeId} (hap : pappend lo size bytes x add new H = some (v, H')) (hR : Rel m L0 H w) (hlo : L0 ≤ lo) (hx : RV m x rx)
    (hn : RL m new rnew) (hf : ∀ b, H.length ≤ b → b < H'.length → m b = none)
    (hroom : ∀ a n c w', rx = .slice (some a) n c → n + add ≤ c → (storeCells (a.add (n * size)) rnew).run P w = .ok () w' → s.run P w = .ok (.slice (some a) (n + add) c) w')
    (hnil : rx = .slice none 0 0 → add = 0 → s.run P w = .ok (.slice none 0 0) w)
    (hgrow : ∀ base n c olds, rx = .slice base n c → (Builtin.firstCells size n rx).run P w.drew = .ok (List.toArray olds) w.drew → olds.length = n * size → c < n + add → (n + add) * bytes ≤ 140737488355328 → ∃ cap arr, n + add ≤ cap ∧
      s.run P w = .ok (.slice (some ⟨w.heap.size, 0, none⟩) (n + add) cap) (w.drew.alloc (.cells arr e)) ∧ arr.size = cap * size ∧ ∀ i, i < (olds ++ rnew).length → arr.getD i undef = (olds ++ rnew).getD i undef) :
    ∃ rv w' m', s.run P w = .ok rv w' ∧ RV m' v rv ∧ Rel m' L0 H' w' ∧ Trans lo m H w m' H' w' := by
  unfold pappend at hap
  split at hap
  case isFalse => cases hap
  rename_i hc0
  obtain ⟨hb1, hs1, hsc, hnl⟩ := hc0
  split at hap
  · rename_i n c
    split at hap
    · rename_i h0
      obtain ⟨rfl, rfl⟩ := h0
      cases hx
      split at hap
      · rename_i hadd
        cases hap
        exact ⟨_, w, m, hnil rfl hadd, .snil, hR, Trans.refl lo m H w⟩
      · rename_i hadd
        split at hap
        · rename_i hb
          cases hap
          obtain ⟨cap, arr, k1, k2, k3, k4⟩ := hgrow none 0 0 [] rfl (by simp [Builtin.firstCells]) (by simp) (by omega) (by simpa using hb)
          have hmn : m H.length = none := hf _ (Nat.le_refl _) (by simp)
          have hl : new.length ≤ arr.size := by rw [k3, hnl]; exact Nat.mul_le_mul_right _ (by omega)
          have hA := alloc_rel hR hmn (w' := w.drew.alloc (.cells arr e)) (arr := arr) (e := e) (fz := (0, 0)) rfl ⟨rfl, rfl, rfl⟩ (cs := new) (esz := size) (opn := true) hl
            (fun i hi => by
              rw [k4 i (by rw [List.nil_append, ← hn.1]; exact hi)]
              exact hn.2 i hi) hsc (fun j _ h => by simp at h)
          refine ⟨_, _, _, k2, ?_, hA.1, hA.2 lo⟩
          rw [Nat.zero_add] at k1 ⊢
          exact .slice _ 0 add add _ _ cap (bindAt_same m _ _) (Nat.le_refl _) k1 (fun h => by cases h) (.inr ⟨rfl, by simp only [k3]; omega⟩)
        · cases hap
    · cases hap
  · rename_i b o n c
    cases hx with
    | slice _ _ _ _ l ra rc hm hnc hcr hxp ha =>
      split at hap
      · rename_i cs es p hbk
        obtain ⟨g1, g2, g3, g4⟩ := hR.row b l cs es p hm hbk
        split at hap
        · rename_i hle
          obtain ⟨rfl, hle⟩ := hle
          -- what the model's slice shows
          have hold : ∃ olds : List Value, RL m ((cs.drop o).take (n * es)) olds ∧ olds.length = n * es ∧ (Builtin.firstCells es n (.slice (some ra) n rc)).run P w.drew = .ok olds.toArray w.drew := by
            have hrd : H.read b o (n * es) = some ((cs.drop o).take (n * es)) := by simp [Heap.read, hbk, hle]
            obtain ⟨rs, h1, h2, _, h3⟩ := read_rel hR hm hrd
            rcases ha with ha | ⟨rfl, ha⟩
            · have h0 : n = 0 := by omega
              subst h0
              have e0 : rs = [] := List.eq_nil_of_length_eq_zero (by simpa using h2)
              subst e0
              exact ⟨[], h1, by simp, run_firstCells_some (P := P) w.drew es 0 _ _ _ [] (by simp) fun j v hj => by cases hj⟩
            · exact ⟨rs, h1, h2, run_firstCells_some (P := P) w.drew es n _ _ _ rs h2 fun j v hj => by rw [World.cell?_drew]; exact h3 j v hj⟩
          obtain ⟨olds, o1, o2, o3⟩ := hold
          -- the growing, common to two ways
          have grown : ∀ (Hd : Heap) (hRd : Rel m L0 Hd w) (hTd : Trans lo m H w m Hd w) (hEd : Ext lo H Hd) (hld : Hd.length = H.length), H' = Hd ++ [.row ((cs.drop o).take (n * es) ++ new) es true] → v = .slice (some ⟨H.length, 0, none⟩) (n + add) (n + add) →
              rc < n + add → (n + add) * bytes ≤ 140737488355328 → ∃ rv w' m', s.run P w = .ok rv w' ∧ RV m' v rv ∧ Rel m' L0 H' w' ∧ Trans lo m H w m' H' w' := by
            intro Hd hRd hTd hEd hld hH' hv hg hb
            subst hH'
            subst hv
            obtain ⟨cap, arr, k1, k2, k3, k4⟩ := hgrow (some ra) n rc olds rfl o3 o2 hg hb
            have hmn : m Hd.length = none := by rw [hld]; exact hf _ (Nat.le_refl _) (by simp [hld])
            have hlen : ((cs.drop o).take (n * es) ++ new).length = (n + add) * es := by rw [List.length_append, o1.1, o2, hnl, Nat.add_mul]
            have hA := alloc_rel hRd hmn (w' := w.drew.alloc (.cells arr e)) (arr := arr) (e := e) (fz := (0, 0)) rfl ⟨rfl, rfl, rfl⟩ (cs := (cs.drop o).take (n * es) ++ new) (esz := es) (opn := true)
              (by rw [hlen, k3]; exact Nat.mul_le_mul_right _ k1)
              (fun i hi => by
                rw [k4 i (by rw [List.length_append, o2, ← hn.1, hnl, ← Nat.add_mul]; rw [hlen] at hi; exact hi)]
                exact (o1.append hn).2 i hi)
              (by
                have hrd : H.read b o (n * es) = some ((cs.drop o).take (n * es)) := by simp [Heap.read, hbk, hle]
                obtain ⟨_, _, _, h2', _⟩ := read_rel hR hm hrd
                rw [List.all_append, h2', hsc]; rfl) (fun j _ h => by simp at h)
            rw [hld] at hA
            refine ⟨_, _, _, k2, ?_, hA.1, ?_⟩
            · exact .slice _ 0 _ _ _ _ cap (bindAt_same m _ _) (Nat.le_refl _) k1 (fun h => by cases h) (.inr ⟨rfl, by simp only [k3]; omega⟩)
            · exact Trans.trans (H1 := Hd) hf hEd (ext_alloc lo Hd _) hTd (hA.2 lo)
          split at hap
          · rename_i hin
            split at hap
            · rename_i hadd
              cases hap
              subst hadd
              have e0 : new = [] := List.eq_nil_of_length_eq_zero (by simpa using hnl)
              subst e0
              have e1 : rnew = [] := List.eq_nil_of_length_eq_zero hn.1.symm
              subst e1
              exact ⟨_, w, m, hroom ra n rc w rfl (by omega) rfl, .slice b o n c l ra rc hm hnc hcr hxp ha, hR, Trans.refl lo m H w⟩
            · rename_i hadd
              cases hw : H.write lo b (o + n * es) new with
              | none => rw [hw] at hap; cases hap
              | some H1 =>
                rw [hw] at hap
                cases hap
                rcases ha with ha | ⟨rfl, ha⟩
                · omega
                · obtain ⟨w', s1, s2, s3⟩ := write_rel P hR hlo hm hw hn
                  refine ⟨_, w', m, hroom _ n rc w' rfl (by omega) (by rw [addr_add, Nat.add_assoc]; exact s1), ?_, s2, s3⟩
                  exact .slice b o (n + add) c l _ rc hm (by omega) hcr hxp (.inr ⟨rfl, ha⟩)
          · rename_i hin
            split at hap
            · rename_i hb
              split at hap
              · rename_i hp
                split at hap
                · rename_i hlb
                  cases hap
                  by_cases hg : rc < n + add
                  · exact grown (H.set b .dead) (kill_rel hR b).1 ((kill_rel hR b).2 lo) (ext_kill hlb) (by simp) rfl rfl hg hb
                  · -- the model has room behind what the pure machine knows
                    subst hp
                    rcases ha with ha | ⟨rfl, ha⟩
                    · omega
                    · have hmn : m H.length = none := hf _ (Nat.le_refl _) (by simp)
                      have hfit : l.base + o + n * es + new.length ≤ l.rsz := by
                        rw [hnl]
                        have : (n + add) * es ≤ rc * es := Nat.mul_le_mul_right _ (by omega)
                        rw [Nat.add_mul] at this
                        rw [g1] at ha
                        omega
                      obtain ⟨w', s1, s2, s3⟩ := move_rel P hR hlo hlb hm hmn hbk hle hfit hsc hn
                      refine ⟨_, w', _, hroom _ n rc w' rfl (by omega) (by rw [addr_add]; exact s1), ?_, s2, s3⟩
                      refine .slice _ 0 _ _ _ _ rc (bindAt_same m _ _) (Nat.le_refl _) (by omega) (fun h => by cases h) (.inr ⟨rfl, ?_⟩)
                      rw [g1] at ha
                      simp only
                      omega
                · cases hap
              · rename_i hp
                cases hap
                have hp' : l.opn = false := by rw [g2]; simpa using hp
                have := hxp hp'
                exact grown H hR (Trans.refl lo m H w) (Ext.refl lo H) rfl rfl rfl (by omega) hb
            · cases hap
        · cases hap
      · cases hap
  · cases hap

end
end Go.PM
