/- From the statement's own words to the pure machine: what an argument reads as becomes a block of the pure machine; what the pure machine comes to is what the call comes to. -/
import Derived.Test.YtkoiolkkceknhaaPmTop
import Derived.WalkKit
import Derived.ProofKit
import Derived.OpenShut
import Derived.ShutString
import Derived.ChangeOld
import Derived.Below
import Derived.Carry
import Derived.SizedLaws
namespace Go.PM
open Go.ChangeShapes Go.WideShapes Go.ChangeAt Go.RowKit
open Go.Proofs

/-- The blocks that stand for arguments. -/
structure In (m : PMap) (H : Heap) (W : World) : Prop where
  dom : ∀ b l, m b = some l → b < H.length
  valid : ∀ b l, m b = some l → ∃ arr e fz, W.heap[l.rb]? = some (.cells arr e fz) ∧ arr.size = l.rsz
  row : ∀ b l cs e p, m b = some l → H[b]? = some (.row cs e p) → l.esz = e ∧ l.opn = p ∧ l.base + cs.length ≤ l.rsz ∧
    ∀ i, i < cs.length → ∃ rv, W.cell? ⟨l.rb, l.base + i, none⟩ = some rv ∧ RV m (cs.getD i Go.undef) rv ∧ PM.scal (cs.getD i Go.undef) = true

section
variable {m : PMap} {H : Heap} {W : World}
theorem In.empty : In (fun _ => none) [] W := ⟨fun _ _ h => (by cases h), fun _ _ h => (by cases h), fun _ _ _ _ _ h => (by cases h)⟩
theorem In.rel (h : In m H W) : Rel m H.length H W :=
  ⟨fun b l hb => by
      obtain ⟨arr, e, fz, h1, h2⟩ := h.valid b l hb
      exact ⟨arr, e, fz, h1, h2, fun hl => by have := h.dom b l hb; omega⟩, h.row, fun b1 b2 l1 l2 hl h1 _ _ _ _ => by have := h.dom b1 l1 h1; omega⟩
theorem In.unset (h : In m H W) {b : Nat} (hb : H.length ≤ b) : m b = none := by
  cases hm : m b with
  | none => rfl
  | some l => have := h.dom b l hm; omega

/-- One more block of the world is told. -/
theorem In.add (h : In m H W) {rb base esz : Nat} {arr : Array Value} {e : TypeId} {fz : Nat × Nat} {cs : List Value} (hb : W.heap[rb]? = some (.cells arr e fz)) (hfit : base + cs.length ≤ arr.size)
    (hc : ∀ i, i < cs.length → ∃ rv, W.cell? ⟨rb, base + i, none⟩ = some rv ∧ RV (bindAt m H.length ⟨rb, base, esz, arr.size, false⟩) (cs.getD i Go.undef) rv ∧ PM.scal (cs.getD i Go.undef) = true) :
    In (bindAt m H.length ⟨rb, base, esz, arr.size, false⟩) (H ++ [.row cs esz false]) W := by
  have hn := h.unset (Nat.le_refl H.length)
  refine ⟨fun b l hbl => ?_, fun b l hbl => ?_, fun b l ds e' p hbl hrow => ?_⟩
  · by_cases he : b = H.length
    · subst he; simp
    · rw [bindAt_ne he] at hbl
      have := h.dom b l hbl
      simp; omega
  · by_cases he : b = H.length
    · subst he
      rw [bindAt_same] at hbl
      cases hbl
      exact ⟨arr, e, fz, hb, rfl⟩
    · rw [bindAt_ne he] at hbl
      exact h.valid b l hbl
  · by_cases he : b = H.length
    · subst he
      rw [bindAt_same] at hbl
      cases hbl
      rw [get_top] at hrow
      cases hrow
      exact ⟨rfl, rfl, hfit, hc⟩
    · rw [bindAt_ne he] at hbl
      have hlt := h.dom b l hbl
      rw [get_old hlt] at hrow
      obtain ⟨h1, h2, h3, h4⟩ := h.row b l ds e' p hbl hrow
      refine ⟨h1, h2, h3, fun i hi => ?_⟩
      obtain ⟨rv, g1, g2, g3⟩ := h4 i hi
      exact ⟨rv, g1, g2.mono (bindAt_ext hn), g3⟩
end

theorem list_of {α : Type} (p : Nat → α → Prop) : ∀ c, (∀ i, i < c → ∃ x, p i x) → ∃ xs : List α, xs.length = c ∧ ∀ i x, xs[i]? = some x → p i x
  | 0, _ => ⟨[], rfl, fun i x hx => by simp at hx⟩
  | c + 1, h => by
    obtain ⟨xs, h1, h2⟩ := list_of p c fun i hi => h i (by omega)
    obtain ⟨x, h3⟩ := h c (by omega)
    refine ⟨xs ++ [x], by simp [h1], fun i y hy => ?_⟩
    rcases Nat.lt_or_ge i xs.length with hi | hi
    · rw [List.getElem?_append_left hi] at hy
      exact h2 i y hy
    · rw [List.getElem?_append_right hi] at hy
      have hi0 : i - xs.length = 0 := by
        rcases Nat.eq_zero_or_pos (i - xs.length) with h | h
        · exact h
        · rw [List.getElem?_eq_none (by simp; omega)] at hy; cases hy
      rw [hi0] at hy
      cases hy
      have : i = c := by omega
      subst this
      exact h3

/-- A slice that is handed over: its elements, as blocks and as a list. -/
theorem open_slice {T : Type} {encT : TypeId × Value → T} {α : Type} {enc : α → List Value} {good : α → Prop} {P : Program} {W : World} {t e : TypeId} {esz base : Nat} (ht : P.underlying t = some (.slice e)) (hesz : P.cellsOf e = esz) (eok : EncOk enc esz)
    (hel : ∀ fuel cs y, DataW.trod encT P W 0 (fun _ => true) true fuel e cs = some y → ∃ x : α, cs = enc x ∧ good x) (hself : ∀ (m : PMap) x, good x → ∀ i, i < esz → RV m ((enc x).getD i Go.undef) ((enc x).getD i Go.undef))
    {v : Value} {d : DataW T} {ps : List MemPlace} (h : DataW.Trod encT P W 0 (fun _ => true) true t v d ps) (hv : Value.okWide P W .any base t v) {m : PMap} {H : Heap} (hI : In m H W) :
    ∃ (a pa : Option Addr) (n c : Nat) (xs : List α) (m' : PMap) (L : Heap), v = .slice a n c ∧ In m' (H ++ L) W ∧ (∀ b l, m b = some l → m' b = some l) ∧ RV m' (.slice pa n c) v ∧ Arr enc esz (H ++ L) pa n xs ∧ (∀ x ∈ xs, good x) ∧ n ≤ c ∧ (c = 0 ∨ ∃ el sp, d = .slice el sp ∧ el.length + sp.length = c) ∧ (pa = none ↔ a = none) := by
  obtain ⟨a, n, c, rfl⟩ := okWide_slice ht hv
  obtain ⟨fuel, hf⟩ := h
  have hcs : (Value.slice a n c).cells.toList = [.slice a n c] := rfl
  rw [hcs] at hf
  rcases DataW.trod_slice ht hf with ⟨h1, _⟩ | ⟨a', len, cap, elems, rest, k, _, h1, hd, _, hl, hm, hlen, hE, hR, _⟩
  · injection h1 with h1 _
    cases h1
    exact ⟨none, none, 0, 0, [], m, [], rfl, by simpa using hI, fun _ _ h => h, .snil, ⟨rfl, fun i x hx => by simp at hx⟩, fun x hx => by simp at hx, Nat.le_refl _, .inl rfl, Iff.rfl⟩
  · injection h1 with h1 _
    cases h1
    obtain ⟨hrl, hR⟩ := hR rfl
    have hcell : ∀ i, i < c → ∃ x : α, W.cells? 0 (a'.add (i * esz)) esz = some (enc x) ∧ good x := by
      intro i hi
      have key : ∃ y, (W.cells? 0 (a'.add (i * P.cellsOf e)) (P.cellsOf e)).bind (DataW.trod encT P W 0 (fun _ => true) true k e) = some y := by
        rcases Nat.lt_or_ge i n with hin | hin
        · exact ⟨elems[i]'(by omega), by rw [hE i hin]; exact List.getElem?_eq_getElem _⟩
        · have := hR (i - n) (by omega)
          rw [show n + (i - n) = i by omega] at this
          exact ⟨rest[i - n]'(by omega), by rw [this]; exact List.getElem?_eq_getElem _⟩
      obtain ⟨y, hy⟩ := key
      rw [Option.bind_eq_some_iff, hesz] at hy
      obtain ⟨cs, h1, h2⟩ := hy
      obtain ⟨x, rfl, hg⟩ := hel _ _ _ h2
      exact ⟨x, h1, hg⟩
    obtain ⟨xs, hxl, hx⟩ := list_of (fun i x => W.cells? 0 (a'.add (i * esz)) esz = some (enc x) ∧ good x) c hcell
    have hhas : W.has P .any base a' e c := by
      simp only [Value.okWide, ht, Cell.okWide, Cell.ok] at hv
      exact hv.2.2
    obtain ⟨_, hspot, row, ncells, hshape, _⟩ := hhas
    obtain ⟨rb, off, spot⟩ := a'
    simp only at hspot
    subst hspot
    obtain ⟨arr, e', fz, hblk⟩ : ∃ arr e' fz, W.heap[rb]? = some (.cells arr e' fz) := by
      unfold World.shape? at hshape
      split at hshape
      · rename_i arr e' fz hb; exact ⟨arr, e', fz, hb⟩
      · cases hshape
    have hflat := flat_len (xs := xs) eok
    have hcells : ∀ i, i < xs.length * esz → ∃ x, xs[i / esz]? = some x ∧ (xs.flatMap enc).getD i Go.undef = (enc x).getD (i % esz) Go.undef ∧ W.cell? ⟨rb, off + i, none⟩ = some ((enc x).getD (i % esz) Go.undef) ∧ good x := by
      intro i hi
      have hpos := eok.pos
      have hq : i / esz < xs.length := Nat.div_lt_of_lt_mul (by rw [Nat.mul_comm]; exact hi)
      have hr : i % esz < esz := Nat.mod_lt _ (by omega)
      have hx1 : xs[i / esz]? = some xs[i / esz] := List.getElem?_eq_getElem hq
      obtain ⟨h1, h2⟩ := hx _ _ hx1
      have h3 := (World.cells?_some h1).2.2 (i % esz) hr
      have hsum : i / esz * esz + i % esz = i := by rw [Nat.mul_comm]; exact Nat.div_add_mod i esz
      have hre : (enc xs[i / esz])[i % esz]? = some ((enc xs[i / esz]).getD (i % esz) Go.undef) := by
        rw [List.getD_eq_getElem?_getD, List.getElem?_eq_getElem (by rw [eok.len]; exact hr)]
        rfl
      refine ⟨xs[i / esz], hx1, ?_, ?_, h2⟩
      · have h4 : (xs.flatMap enc)[i]? = ((xs.flatMap enc).drop (i / esz * esz))[i % esz]? := by
          rw [List.getElem?_drop, hsum]
        rw [List.getD_eq_getElem?_getD, h4, flat_drop eok, List.drop_eq_getElem_cons hq, List.flatMap_cons, List.getElem?_append_left (by rw [eok.len]; exact hr), List.getD_eq_getElem?_getD]
      · rw [hre] at h3
        rw [← h3]
        have ha : ∀ o k : Nat, (⟨rb, o, none⟩ : Addr).add k = ⟨rb, o + k, none⟩ := by
          intro o k
          unfold Addr.add
          split
          · rename_i h0; subst h0; rfl
          · rfl
        rw [ha, ha, Nat.add_assoc, hsum]
    have hfit : (if c = 0 then 0 else off) + (xs.flatMap enc).length ≤ arr.size := by
      rw [hflat, hxl]
      split
      · rename_i h0; subst h0; simp
      · rename_i h0
        have hpos := eok.pos
        have hm1 : 1 ≤ c * esz := Nat.mul_pos (by omega) hpos
        obtain ⟨x, _, _, h3, _⟩ := hcells (c * esz - 1) (by rw [hxl]; omega)
        unfold World.cell? at h3
        simp only [hblk, Option.isSome_none, Bool.false_eq_true, if_false] at h3
        have := (Array.getElem?_eq_some_iff.1 h3).1
        omega
    have hadd := hI.add (esz := esz) (cs := xs.flatMap enc) (base := if c = 0 then 0 else off) hblk hfit (fun i hi => by
      rw [hflat] at hi
      obtain ⟨x, _, h2, h3, h4⟩ := hcells i hi
      have h0 : ¬ c = 0 := by
        intro h0
        rw [hxl, h0] at hi
        omega
      rw [if_neg h0, h2]
      have hr : i % esz < esz := Nat.mod_lt _ (by have := eok.pos; omega)
      refine ⟨_, h3, hself _ x h4 _ hr, ?_⟩
      have hsc := List.all_eq_true.1 (eok.sc x) ((enc x).getD (i % esz) Go.undef) (by
        rw [List.getD_eq_getElem?_getD, List.getElem?_eq_getElem (by rw [eok.len]; exact hr)]
        exact List.getElem_mem _)
      exact hsc)
    refine ⟨some ⟨rb, off, none⟩, some ⟨H.length, 0, none⟩, n, c, xs.take n, _, _, rfl, hadd, bindAt_ext (hI.unset (Nat.le_refl _)), ?_, ?_, fun x hxm => ?_, hl, .inr ⟨_, _, congrArg Prod.fst hd, by simp [hlen, hrl]; omega⟩, by simp⟩
    · refine .slice H.length 0 n c _ _ c (bindAt_same _ _ _) hl (Nat.le_refl _) (fun _ => rfl) ?_
      rcases Nat.eq_zero_or_pos c with h0 | h0
      · exact .inl h0
      · right
        rw [if_neg (by omega)]
        refine ⟨rfl, ?_⟩
        rw [if_neg (by omega), hflat, hxl] at hfit
        simpa using hfit
    · have hR : Row enc esz (H ++ [.row (xs.flatMap enc) esz false]) H.length false xs := Row.top
      exact hR.arr eok (by omega)
    · have hxm' := List.mem_of_mem_take hxm
      obtain ⟨i, hi⟩ := List.getElem?_of_mem hxm'
      exact (hx i x hi).2

/-- How long a slice that is handed over may be. -/
theorem cap_le {T : Type} {P : Program} {ts : List TypeId} {ds : List (DataW T)} (h : (DataW.weightsEach P ts ds).all (· ≤ reachBytes) = true) {j : Nat} {t e : TypeId} {d : DataW T} {c : Nat} (hc : c = 0 ∨ ∃ el sp, d = .slice el sp ∧ el.length + sp.length = c)
    (ht : ts[j]? = some t) (hd : ds[j]? = some d) (hu : P.underlying t = some (.slice e)) (hb : Nat.ble 1 (P.bytesOf e) = true) : c ≤ 140737488355328 := by
  rcases hc with rfl | ⟨el, sp, rfl, rfl⟩
  · omega
  · have h1 := sized_slice h ht hd hu
    have h2 : reachBytes < 2 ^ 47 := reachBytes_lt
    have h3 := Nat.le_of_ble_eq_true hb
    have h4 := Nat.mul_le_mul_left (el.length + sp.length) h3
    omega

/-- What the pure machine comes to is what the call comes to; all that was there stays. -/
theorem calls_pm {f : Nat} {args rargs : List Value} {H H' : Heap} {v : Value} {m : PMap} {W : World} (hI : In m H W) (hr : RL m args rargs) (h : pmCall f args H.length H = some (v, H')) :
    Calls Try.prog f rargs.toArray W fun e W' => ∃ m' rv, e = .returned rv ∧ RV m' v rv ∧ Below W.heap.size W W' := by
  obtain ⟨n, hn⟩ := (call_iff cfg tab).1 h
  have hprim : PrimOk Try.prog cfg H.length := fun f p hp => by cases hp
  refine (callerSim Try.checked.mixed hprim n f args H.length H v H' hn m W rargs hI.rel (Nat.le_refl _) (Nat.le_refl _) hr (fun b hb _ => hI.unset hb)).2.mono ?_
  rintro e W' ⟨m', rv, rfl, h1, _, h3⟩
  refine ⟨m', rv, rfl, h1, ⟨h3.same.1, h3.same.2.2, h3.same.2.1, h3.size, fun k hk => h3.keep k hk fun b l hb hm _ => ?_⟩⟩
  rw [hI.unset hb] at hm
  cases hm

end Go.PM
