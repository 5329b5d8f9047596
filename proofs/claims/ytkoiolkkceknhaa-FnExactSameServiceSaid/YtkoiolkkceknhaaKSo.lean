/- Texts of a claim, in one: part 15. -/
import Derived.Test.YtkoiolkkceknhaaKSn

/- The statement on SameService, walked. -/
set_option linter.unusedSimpArgs false
set_option linter.unusedVariables false
namespace Go.PM

def szSv (s : Svc) (left : Int) : Int := if szS s.b left < 0 then -1 else if szSS s.g (szS s.b left) < 0 then -1 else if szS s.e (szSS s.g (szS s.b left)) < 0 then -1 else szS s.e (szSS s.g (szS s.b left))
theorem szSv_le {s : Svc} {l : Int} (h : 0 ≤ szSv s l) : szSv s l ≤ l ∧ (s.b.length : Int) ≤ l ∧ (s.g.length : Int) ≤ l ∧ (∀ x ∈ s.g, (x.length : Int) ≤ l) ∧ (s.e.length : Int) ≤ l := by
  unfold szSv at h ⊢
  split at h
  · omega
  rename_i h0
  split at h
  · omega
  rename_i h1
  split at h
  · omega
  rename_i h2
  rw [if_neg h0, if_neg h1, if_neg h2]
  have b0 := szS_le (xs := s.b) (l := l) (by omega)
  have b1 := szSS_le (xs := s.g) (l := szS s.b l) (by omega)
  have b2 := szS_le (xs := s.e) (l := szSS s.g (szS s.b l)) (by omega)
  exact ⟨by omega, b0.2.1, by omega, fun x hx => by have := (b1.2.2 x hx).1; omega, by omega⟩
theorem to_sv {lo : Nat} {s : Svc} {bare : Bool} {H : VHeap} {K : VV → VHeap → Prop} (hb : s.b.length ≤ 1000000000) (hg : s.g.length ≤ 1000000000 ∧ ∀ x ∈ s.g, x.length ≤ 1000000000) (he : s.e.length ≤ 1000000000)
    (hk : ∀ c H', H <+: H' → SvCell H.length H' bare s c → K c H') : vcallP 36 [svV s, .sc (.bool bare)] lo H K := by
  refine (laws_toService_v s bare hb hg he).call rfl (mapM_pure (n := 7) (by simp only [pureL, svV_pure, Bool.true_and]; rfl)) ?_
  intro r L h
  exact hk r _ (List.prefix_append _ _) (h.keep fun b g x hb h => vrow_move (Nat.le_of_lt hb) h)
theorem new3 {n lo : Nat} {s : Svc} {bare : Bool} {H : VHeap} {c : VV} (hc : SvCell n H bare s c) (hlo : lo ≤ H.length) : vstore lo 3 (.ptr H.length 0 0 0) c (H ++ [.row 0 [.agg [.tree [] .nil, .tree [] .nil, .tree [] .nil]] 3 true]) = some (H ++ [.row 0 [c] 3 true]) := by
  obtain ⟨c0, c1, c2, rfl, h0, h1, h2⟩ := hc
  rw [vstore_all (e := 3) (g := 0) (lo := lo) (v := .agg [c0, c1, c2]) (j := 0) vrow_last (by decide) hlo rfl (by simp [vcells, h0.cell.2.1, h1.cell.2, h2.cell.2.1]), set_last]
  rfl
theorem ld3 {n b : Nat} {s : Svc} {bare : Bool} {H H' : VHeap} {c : VV} (hc : SvCell n H bare s c) (h : vrow H' b 0 = some ([c], 3, true)) : vload true 3 (.ptr b 0 0 0) H' = some c := by
  obtain ⟨c0, c1, c2, rfl, _⟩ := hc
  rw [vload_pdef, h]
  rfl
theorem svV_ld {s : Svc} : rdCells true 3 (svV s) 0 = some (svV s) := rfl

theorem svV_all {s : Svc} : (vcells (svV s)).all vscal = true := rfl
theorem impl_same {n n' lo : Nat} {a b : Svc} {ba bb : Bool} {H : VHeap} {c c' : VV} {K : VV → VHeap → Prop} (hb : a.b.length ≤ 1000000000) (hg : a.g.length ≤ 1000000000 ∧ ∀ x ∈ a.g, x.length ≤ 1000000000) (he : a.e.length ≤ 1000000000) (h : SvCell n H ba a c) (h' : SvCell n' H bb b c') :
    vcallP 37 [c, c'] lo H K = K (.sc (.bool (decide (a = b)))) H :=
  (impl_SameService_v a b hb hg he).flat rfl (by simp only [pureL, svV_pure, Bool.and_self]) (fz2 h.fz h'.fz) rfl lo K
theorem spec_same {n n' lo : Nat} {a b : Svc} {ba bb : Bool} {H : VHeap} {c c' : VV} {K : VV → VHeap → Prop} (hb : a.b.length ≤ 1000000000) (hg : a.g.length ≤ 1000000000 ∧ ∀ x ∈ a.g, x.length ≤ 1000000000) (he : a.e.length ≤ 1000000000) (h : SvCell n H ba a c) (h' : SvCell n' H bb b c') :
    vcallP 35 [c, c'] lo H K = K (.sc (.bool (decide (a = b)))) H :=
  (spec_SameService_v a b hb hg he).flat rfl (by simp only [pureL, svV_pure, Bool.and_self]) (fz2 h.fz h'.fz) rfl lo K

set_option maxHeartbeats 400000 in
theorem laws_FnExactSameService_v (a b : Svc) (ha : okSv a) (hb : okSv b) : TC 8 [svV a, svV b] (.sc (.bool true)) := by
  refine TC.walk ⟨true, false⟩ laws_FnExactSameService_t rfl (Nat.le_of_ble_eq_true rfl) (by simp only [pureL, svV_pure, Bool.and_self]) rfl ?_
  have z1 := laws_szService_v a 1000000 ha (by omega)
  change TC _ _ (VI (szSv a 1000000)) at z1
  by_cases n1 : szSv a 1000000 < 0
  · simp only [laws_FnExactSameService, laws_FnExactSameService_c, svV_ld, svV_all, z1, n1, VX, Nat.reduceEqDiff, Nat.reduceAdd]
    exact fz_res rfl
  have f1 := szSv_le (s := a) (l := 1000000) (by omega)
  have z2 := laws_szService_v b (szSv a 1000000) hb ⟨by omega, f1.1⟩
  change TC _ _ (VI (szSv b (szSv a 1000000))) at z2
  by_cases n2 : szSv b (szSv a 1000000) < 0
  · simp only [laws_FnExactSameService, laws_FnExactSameService_c, svV_ld, svV_all, z1, n1, z2, n2, VX, Nat.reduceEqDiff, Nat.reduceAdd]
    exact fz_res rfl
  have f2 := szSv_le (s := b) (l := szSv a 1000000) (by omega)
  simp only [laws_FnExactSameService, laws_FnExactSameService_c, svV_ld, svV_all, z1, n1, z2, n2, VX, Nat.reduceEqDiff, Nat.reduceAdd]
  have ga : a.g.length ≤ 400000000 ∧ ∀ x ∈ a.g, x.length ≤ 400000000 := ⟨by omega, fun x hx => by have := f1.2.2.2.1 x hx; omega⟩
  have gb : b.g.length ≤ 400000000 ∧ ∀ x ∈ b.g, x.length ≤ 400000000 := ⟨by omega, fun x hx => by have := f2.2.2.2.1 x hx; omega⟩
  have ga' : a.g.length ≤ 1000000000 ∧ ∀ x ∈ a.g, x.length ≤ 1000000000 := ⟨by omega, fun x hx => by have := ga.2 x hx; omega⟩
  have gb' : b.g.length ≤ 1000000000 ∧ ∀ x ∈ b.g, x.length ≤ 1000000000 := ⟨by omega, fun x hx => by have := gb.2 x hx; omega⟩
  -- the reference
  refine to_sv (by omega) ga' (by omega) fun c1 H1 p1 s1 => ?_
  simp only [svV_ld, VX, Nat.reduceEqDiff, Nat.reduceAdd]
  refine to_sv (by omega) gb' (by omega) fun c2 H2 p2 s2 => ?_
  have eS := fun lo K => spec_same (lo := lo) (K := K) (by omega) ga' (by omega) (s1.pre p2) s2
  simp only [svV_ld, eS, VX, Nat.reduceEqDiff, Nat.reduceAdd]
  -- the program
  refine to_sv (by omega) ga' (by omega) fun c3 H3 p3 s3 => ?_
  have n3 := new3 (lo := 0) s3 (Nat.zero_le _)
  simp only [svV_ld, n3, elemOf_two, VX, Nat.reduceEqDiff, Nat.reduceAdd]
  refine to_sv (by omega) gb' (by omega) fun c4 H4 p4 s4 => ?_
  have n4 := new3 (lo := 0) s4 (Nat.zero_le _)
  have q3 : vrow (H4 ++ [.row 0 [c4] 3 true]) H3.length 0 = some ([c3], 3, true) := vrow_app (vrow_pre p4 vrow_last)
  have q4 : vrow (H4 ++ [.row 0 [c4] 3 true]) H4.length 0 = some ([c4], 3, true) := vrow_last
  have s3' : SvCell H2.length (H4 ++ [.row 0 [c4] 3 true]) false a c3 := ((s3.pre (List.prefix_append _ _)).pre p4).pre (List.prefix_append _ _)
  have s4' := s4.pre (List.prefix_append H4 [.row 0 [c4] 3 true])
  have eI := fun lo K => impl_same (lo := lo) (K := K) (by omega) ga' (by omega) s3' s4'
  simp only [svV_ld, n4, elemOf_two, ld3 s3 q3, ld3 s4 q4, eI, eqb_self, VX, Nat.reduceEqDiff, Nat.reduceAdd]
  -- nothing was changed
  refine to_sv (by omega) ga' (by omega) fun c5 H5 p5 s5 => ?_
  simp only [svV_ld, VX, Nat.reduceEqDiff, Nat.reduceAdd]
  refine laws_intactService_v a (by omega) ga (by omega) (s3'.pre p5) s5 ?_
  simp only [svV_ld, ld3 s4 (vrow_pre p5 q4), VX, Nat.reduceEqDiff, Nat.reduceAdd]
  refine to_sv (by omega) gb' (by omega) fun c6 H6 p6 s6 => ?_
  simp only [svV_ld, VX, Nat.reduceEqDiff, Nat.reduceAdd]
  refine laws_intactService_v b (by omega) gb (by omega) (s4'.pre (p5.trans p6)) s6 ?_
  simp only [svV_ld, VX, Nat.reduceEqDiff, Nat.reduceAdd]
  -- once more, with bare lists
  refine to_sv (by omega) ga' (by omega) fun c7 H7 p7 s7 => ?_
  simp only [svV_ld, VX, Nat.reduceEqDiff, Nat.reduceAdd]
  refine to_sv (by omega) gb' (by omega) fun c8 H8 p8 s8 => ?_
  have eJ := fun lo K => impl_same (lo := lo) (K := K) (by omega) ga' (by omega) (s7.pre p8) s8
  simp only [svV_ld, eJ, eqb_self, VX, Nat.reduceEqDiff, Nat.reduceAdd]
  exact fz_res rfl
end Go.PM
