/- Texts of a claim, in one: part 7. -/
import Derived.Test.YtbgfeiagaieljaaGreatDoorKFf
/- Functions of the library that are told from outside: their contracts over trees. -/
set_option linter.unusedSimpArgs false
set_option linter.unusedVariables false
namespace Go.PM
abbrev strV (l : List UInt8) : VV := .sc (.string ⟨l.toArray⟩)
theorem VT.prim {f : Nat} {p : List Value → Heap → Option Value} {args : List VV} {r : VV} (hp : primV f = some p) (h : ∀ (V : View) (pargs : List Value), VL V args pargs → ∃ pv, p pargs V.P = some pv ∧ ∀ V', VR V' r pv) : VT f args r := by
  intro F P pargs lop hF hl hlop
  obtain ⟨pv, h1, h2⟩ := h (bare F P) pargs hl
  have e : pmCall f pargs lop P = some (pv, P) := by
    show call cfg tab f pargs lop P = some (pv, P)
    rw [call_prim (E := cfg) (T := tab) hp]
    have h1' : p pargs P = some pv := h1
    rw [h1']
    rfl
  exact ⟨P, pv, e, List.prefix_refl _, h2 _⟩
theorem TC.prim {f : Nat} {p : List Value → Heap → Option Value} {args : List VV} {r : VV} (hp : primV f = some p) (hr : raws.contains f = false) (ha : pureL args = true) (hres : resV r = true) (h : ∀ (V : View) (pargs : List Value), VL V args pargs → ∃ pv, p pargs V.P = some pv ∧ ∀ V', VR V' r pv) : TC f args r :=
  TC.of hr ha (vT_eq ha hres (VT.prim hp h))
theorem VL.one {V : View} {x : Value} {ps : List Value} (h : VL V [.sc x] ps) : ps = [x] := by
  cases h with
  | cons _ v _ vs h hs =>
    cases h
    cases hs
    rfl
theorem VL.two {V : View} {x y : Value} {ps : List Value} (h : VL V [.sc x, .sc y] ps) : ps = [x, y] := by
  cases h with
  | cons _ v _ vs h hs =>
    cases h
    rw [hs.one]
theorem VL.three {V : View} {x y z : Value} {ps : List Value} (h : VL V [.sc x, .sc y, .sc z] ps) : ps = [x, y, z] := by
  cases h with
  | cons _ v _ vs h hs =>
    cases h
    rw [hs.two]
theorem leading_v (x : Nat) (h : x < 4294967296) : TC 159 [.sc (.int .u32 (x : Int))] (VI (32 - (Lib.bitLen x : Int))) := by
  refine TC.prim (p := pLeading) rfl rfl rfl rfl fun V ps hl => ?_
  rw [hl.one]
  unfold pLeading
  simp only
  rw [if_pos ⟨by omega, by omega⟩, Int.toNat_natCast]
  exact ⟨_, rfl, fun _ => .sc _ rfl⟩
theorem fmtu_v (n : Nat) (h : n < 18446744073709551616) : TC 162 [.sc (.int .u64 (n : Int)), VI 10] (strV (Lib.decDigits n)) := by
  refine TC.prim (p := pFormatUint) rfl rfl rfl rfl fun V ps hl => ?_
  rw [hl.two]
  unfold pFormatUint
  simp only
  rw [if_pos ⟨trivial, by omega, by omega⟩, Int.toNat_natCast]
  exact ⟨_, rfl, fun _ => .sc _ rfl⟩
theorem repeat_v (s : List UInt8) (c : Nat) (h : s.length * c ≤ 140737488355328) (hc : c ≤ 9223372036854775807) : TC 163 [strV s, VI (c : Int)] (strV (Lib.repeatL s c)) := by
  refine TC.prim (p := pRepeat) rfl rfl rfl rfl fun V ps hl => ?_
  rw [hl.two]
  unfold pRepeat
  simp only
  rw [if_pos ⟨by omega, by omega, by rw [Int.toNat_natCast]; exact h⟩, Int.toNat_natCast]
  exact ⟨_, rfl, fun _ => .sc _ rfl⟩
theorem strCells_list {V : View} : ∀ {xs : List (List UInt8)} {ps : List Value}, VL V ((xs.map strV).flatMap vcells) ps → strCells ps = some (xs.map fun x => ⟨x.toArray⟩)
  | [], ps, h => by
    have h' : VL V [] ps := h
    cases h'
    rfl
  | x :: xs, ps, h => by
    rw [List.map_cons, List.flatMap_cons] at h
    have h' : VL V (strV x :: (xs.map strV).flatMap vcells) ps := h
    cases h' with
    | cons _ v _ vs h1 h2 =>
      cases h1
      rw [strCells, strCells_list h2]
      rfl
theorem join_v (xs : List (List UInt8)) (hx : xs.length ≤ 140737488355328) (hlen : xs.flatten.length ≤ 140737488355328) : TC 165 [listV strV xs, strV []] (strV xs.flatten) := by
  refine TC.prim (p := pJoin) rfl rfl (by simp only [pureL, pure_list (f := strV) (fun _ => rfl) (fun _ => rfl), Bool.and_true]; rfl) rfl fun V ps hl => ?_
  cases hl with
  | cons _ v _ vs h hs =>
    rw [hs.one]
    have hmap : (xs.map fun x => (⟨x.toArray⟩ : ByteArray)).map (·.data.toList) = xs := by
      rw [List.map_map]
      exact List.map_id' xs
    have jn : Lib.join ((xs.map fun x => (⟨x.toArray⟩ : ByteArray)).map (·.data.toList)) ([] : List UInt8) = xs.flatten := by rw [hmap, join_empty]
    have h' : VR V (.tree (xs.map strV) .op) v := h
    clear h
    generalize hes : xs.map strV = es at h'
    cases h' with
    | tnil k hk =>
      have : xs = [] := List.map_eq_nil_iff.1 hes
      subst this
      exact ⟨_, rfl, fun _ => .sc _ rfl⟩
    | tree _ k b o c r e p hF hb ho hc he hk hl =>
      subst hes
      by_cases h0 : xs = []
      · subst h0
        exact ⟨_, rfl, fun _ => .sc _ rfl⟩
      · obtain ⟨y, ys, rfl⟩ := List.exists_cons_of_ne_nil h0
        have e1 : e = 1 := (he (strV y) (by simp)).symm
        subst e1
        rw [Nat.mul_one] at ho hl
        have hr : V.P.read b o ((y :: ys).map strV).length = some ((r.drop o).take ((y :: ys).map strV).length) := by
          unfold Heap.read
          rw [hb]
          simp only
          rw [if_pos ho]
        have hn : ¬ ((y :: ys).map strV).length = 0 := by simp
        refine ⟨.string ⟨(y :: ys).flatten.toArray⟩, ?_, fun _ => .sc _ rfl⟩
        unfold pJoin
        simp only [hn, if_false, hr, Option.bind_some, strCells_list hl]
        rw [if_pos ⟨by simp, hc, by simpa using hx, by rw [jn]; exact hlen⟩, jn]
theorem index_v (s : List UInt8) (c : UInt8) : TC 171 [strV s, strV [c]] (VI (Lib.indexByte s c)) := by
  refine TC.prim (p := pIndex) rfl rfl rfl rfl fun V ps hl => ?_
  rw [hl.two]
  exact ⟨_, rfl, fun _ => .sc _ rfl⟩
theorem parse_v (s : List UInt8) (u : Nat) (hs : s.length ≤ 9223372036854775806) (h : Lib.parseUintB 64 s = .ok u) : TC 150 [strV s, VI 10, VI 64] (.tup [.sc (.int .u64 (u : Int)), .sc .nilIface]) := by
  refine TC.prim (p := pParseUint) rfl rfl rfl rfl fun V ps hl => ?_
  rw [hl.three]
  unfold pParseUint
  simp only
  rw [if_pos ⟨trivial, trivial, hs⟩]
  have h' : Lib.parseUintB 64 (⟨s.toArray⟩ : ByteArray).data.toList = .ok u := h
  rw [h']
  refine ⟨_, rfl, fun V' => ?_⟩
  exact .tup _ _ (.cons _ _ _ _ (.sc _ rfl) (.cons _ _ _ _ (.sc _ rfl) .nil))
end Go.PM
/- Long division, digit by digit: plain laws. -/
namespace Go.PM
section
variable {b : Nat}
theorem get_mid {α : Type} {pre seg post : List α} {o j : Nat} (ho : pre.length = o) (hj : j < seg.length) : (pre ++ seg ++ post)[o + j]? = seg[j]? := by
  subst ho
  rw [List.append_assoc, List.getElem?_append_right (by omega), Nat.add_sub_cancel_left, List.getElem?_append_left hj]
theorem set_mid {α : Type} {pre seg post : List α} {o j : Nat} {v : α} (ho : pre.length = o) (hj : j < seg.length) : (pre ++ seg ++ post).set (o + j) v = pre ++ seg.set j v ++ post := by
  subst ho
  rw [List.append_assoc, List.set_append_right _ _ (by omega), Nat.add_sub_cancel_left, List.set_append_left _ _ hj, List.append_assoc]
theorem set_drop_tail {xs : List Nat} {i d : Nat} (h : i < xs.length) : (xs.set i d).drop (i + 1) = xs.drop (i + 1) := by
  rw [List.set_eq_take_append_cons_drop, if_pos h, List.drop_append]
  simp [Nat.min_eq_left (by omega : i ≤ xs.length)]
theorem knuth_hi {U V W P V2 U3 g : Nat} (hV : V < (V2 + 1) * P) (hU : U3 * P ≤ U) (hWP : W * P ≤ V) (hg : g ≤ W) (h : g * V2 ≤ U3) : g * V ≤ U + V := by
  have h1 : g * V ≤ g * ((V2 + 1) * P) := Nat.mul_le_mul_left _ (by omega)
  have h2 : g * ((V2 + 1) * P) = g * V2 * P + g * P := by grind
  have h3 : g * V2 * P ≤ U3 * P := Nat.mul_le_mul_right _ h
  have h4 : g * P ≤ W * P := Nat.mul_le_mul_right _ hg
  omega
theorem knuth_lo {U V P V2 U3 g q : Nat} (hP : 0 < P) (hV : V2 * P ≤ V) (hU : U < (U3 + 1) * P) (hq : q * V ≤ U) (h : U3 < g * V2) : q < g := by
  have h1 : q * (V2 * P) ≤ q * V := Nat.mul_le_mul_left _ hV
  have h2 : q * V2 * P < (U3 + 1) * P := by
    have : q * V2 * P = q * (V2 * P) := by grind
    omega
  have h3 : q * V2 < U3 + 1 := Nat.lt_of_mul_lt_mul_right h2
  have h4 : q * V2 < g * V2 := by omega
  exact Nat.lt_of_mul_lt_mul_right h4
theorem val_top {xs : List Nat} {n t : Nat} (hx : ∀ d ∈ xs, d < b) (hn : xs.length = n + 1) (ht : xs[n]? = some t) : t * b ^ n ≤ val b xs ∧ val b xs < (t + 1) * b ^ n := by
  have h1 := val_take_succ (b := b) ht
  rw [List.take_of_length_le (by omega)] at h1
  have h2 := val_lt (b := b) (xs := xs.take n) fun d hd => hx d (List.mem_of_mem_take hd)
  rw [List.length_take, Nat.min_eq_left (by omega)] at h2
  rw [Nat.add_mul, Nat.mul_comm t]
  omega
theorem val_top2 {xs : List Nat} {n t u : Nat} (hx : ∀ d ∈ xs, d < b) (hn : xs.length = n + 2) (ht : xs[n + 1]? = some t) (hu : xs[n]? = some u) : (t * b + u) * b ^ n ≤ val b xs ∧ val b xs < (t * b + u + 1) * b ^ n := by
  have h1 := val_take_succ (b := b) ht
  rw [List.take_of_length_le (by omega), val_take_succ hu] at h1
  have h2 := val_lt (b := b) (xs := xs.take n) fun d hd => hx d (List.mem_of_mem_take hd)
  rw [List.length_take, Nat.min_eq_left (by omega)] at h2
  have e : (t * b + u) * b ^ n = b ^ n * u + b ^ (n + 1) * t := by rw [Nat.pow_succ]; grind
  rw [Nat.add_mul (t * b + u), e]
  omega
theorem val_top3 {xs : List Nat} {n t u v : Nat} (hx : ∀ d ∈ xs, d < b) (hn : xs.length = n + 3) (ht : xs[n + 2]? = some t) (hu : xs[n + 1]? = some u) (hv : xs[n]? = some v) : ((t * b + u) * b + v) * b ^ n ≤ val b xs ∧ val b xs < ((t * b + u) * b + v + 1) * b ^ n := by
  have h1 := val_take_succ (b := b) ht
  rw [List.take_of_length_le (by omega), val_take_succ hu, val_take_succ hv] at h1
  have h2 := val_lt (b := b) (xs := xs.take n) fun d hd => hx d (List.mem_of_mem_take hd)
  rw [List.length_take, Nat.min_eq_left (by omega)] at h2
  have e : ((t * b + u) * b + v) * b ^ n = b ^ n * v + b ^ (n + 1) * u + b ^ (n + 2) * t := by rw [Nat.pow_succ, Nat.pow_succ]; grind
  rw [Nat.add_mul ((t * b + u) * b + v), e]
  omega
structure Guess (b : Nat) (us vs : List Nat) (n u2 u1 u0 v1 v0 : Nat) : Prop where
  hb : 2 ≤ b
  us_lt : ∀ d ∈ us, d < b
  vs_lt : ∀ d ∈ vs, d < b
  us_len : us.length = n + 3
  vs_len : vs.length = n + 2
  e2 : us[n + 2]? = some u2
  e1 : us[n + 1]? = some u1
  e0 : us[n]? = some u0
  f1 : vs[n + 1]? = some v1
  f0 : vs[n]? = some v0
  pos : 1 ≤ v1
  less : val b us < b * val b vs
section
variable {us vs : List Nat} {n u2 u1 u0 v1 v0 : Nat} (G : Guess b us vs n u2 u1 u0 v1 v0)
include G
theorem Guess.vpos : 0 < val b vs := by
  have h := (val_top2 G.vs_lt G.vs_len G.f1 G.f0).1
  have h1 : 0 < (v1 * b + v0) * b ^ n := Nat.mul_pos (by have := Nat.mul_pos G.pos (show 0 < b by have := G.hb; omega); omega) (Nat.pow_pos (by have := G.hb; omega))
  omega
theorem Guess.lt_u2 : u2 < b := G.us_lt _ (List.mem_of_getElem? G.e2)
theorem Guess.lt_u1 : u1 < b := G.us_lt _ (List.mem_of_getElem? G.e1)
theorem Guess.lt_u0 : u0 < b := G.us_lt _ (List.mem_of_getElem? G.e0)
theorem Guess.lt_v1 : v1 < b := G.vs_lt _ (List.mem_of_getElem? G.f1)
theorem Guess.lt_v0 : v0 < b := G.vs_lt _ (List.mem_of_getElem? G.f0)
theorem Guess.q_lt : val b us / val b vs < b := (Nat.div_lt_iff_lt_mul G.vpos).2 G.less
theorem Guess.top : u2 ≤ v1 := by
  have h1 := (val_top (n := n + 2) G.us_lt G.us_len G.e2).1
  have h2 := (val_top (n := n + 1) G.vs_lt G.vs_len G.f1).2
  have h3 : b * val b vs < b * ((v1 + 1) * b ^ (n + 1)) := Nat.mul_lt_mul_of_pos_left h2 (by have := G.hb; omega)
  have h4 : b * ((v1 + 1) * b ^ (n + 1)) = (v1 + 1) * b ^ (n + 2) := by rw [Nat.pow_succ b (n + 1)]; grind
  have h5 := G.less
  have h6 : u2 * b ^ (n + 2) < (v1 + 1) * b ^ (n + 2) := by omega
  have := Nat.lt_of_mul_lt_mul_right h6
  omega
theorem Guess.too {g left : Nat} (hh : u2 * b + u1 = g * v1 + left) (h : left * b + u0 < g * v0) : val b us / val b vs < g := by
  have hu := (val_top3 G.us_lt G.us_len G.e2 G.e1 G.e0).2
  have hv := (val_top2 G.vs_lt G.vs_len G.f1 G.f0).1
  refine knuth_lo (P := b ^ n) (V2 := v1 * b + v0) (U3 := (u2 * b + u1) * b + u0) (Nat.pow_pos (by have := G.hb; omega)) hv hu (Nat.div_mul_le_self _ _) ?_
  rw [hh]
  have : (g * v1 + left) * b + u0 = g * v1 * b + (left * b + u0) := by grind
  have : g * (v1 * b + v0) = g * v1 * b + g * v0 := by grind
  omega
theorem Guess.fine {g left : Nat} (hh : u2 * b + u1 = g * v1 + left) (hg : g ≤ b) (h : g * v0 ≤ left * b + u0) : g ≤ val b us / val b vs + 1 := by
  have hu := (val_top3 G.us_lt G.us_len G.e2 G.e1 G.e0).1
  have hv := val_top2 G.vs_lt G.vs_len G.f1 G.f0
  have h1 : b * b ^ n ≤ val b vs := by
    have : b * b ^ n ≤ (v1 * b + v0) * b ^ n := Nat.mul_le_mul_right _ (by have := Nat.mul_le_mul_right b G.pos; omega)
    omega
  have h2 := knuth_hi (U := val b us) (V := val b vs) (W := b) (P := b ^ n) (V2 := v1 * b + v0) (U3 := (u2 * b + u1) * b + u0) (g := g) hv.2 hu h1 hg (by
    rw [hh]
    have : (g * v1 + left) * b + u0 = g * v1 * b + (left * b + u0) := by grind
    have : g * (v1 * b + v0) = g * v1 * b + g * v0 := by grind
    omega)
  have h3 : g ≤ (val b us + val b vs) / val b vs := (Nat.le_div_iff_mul_le G.vpos).2 h2
  rwa [Nat.add_div_right _ G.vpos] at h3
theorem Guess.broken {g left : Nat} (hh : u2 * b + u1 = g * v1 + left) (h : b ≤ left) : g < b ∧ g * v0 ≤ left * b + u0 := by
  have h1 := G.top
  have h2 := G.lt_u1
  have h3 : u2 * b ≤ v1 * b := Nat.mul_le_mul_right _ h1
  have h4 : g * v1 < b * v1 := by rw [Nat.mul_comm b]; omega
  have hg : g < b := Nat.lt_of_mul_lt_mul_right h4
  refine ⟨hg, ?_⟩
  have h5 := G.lt_v0
  have h6 : g * v0 ≤ b * b := Nat.mul_le_mul (by omega) (by omega)
  have h7 : b * b ≤ left * b := Nat.mul_le_mul_right _ h
  omega
end
theorem away_step {P A N T c l x y r W l' c' c1 lo t : Nat} (h : A + P * (c + l) = N + T) (h1 : c1 = c + t * y) (h2 : c1 = lo + W * c') (hd : r + lo + l = x + W * l') : (A + P * x) + P * W * (c' + l') = (N + P * r) + (T + P * (t * y)) := by
  subst h1
  have e : r + (c + t * y) + l = x + W * l' + W * c' := by omega
  have e2 : P * (r + (c + t * y) + l) = P * (x + W * l' + W * c') := by rw [e]
  grind
theorem away_end {S S' V t P cl : Nat} (h : S + P * cl = S' + t * V) (hS' : S' < P) (hV : V ≤ P) (ht : t * V ≤ S + V) : cl = 0 ∨ cl = 1 := by
  rcases Nat.lt_or_ge cl 2 with h1 | h1
  · omega
  · have : P * 2 ≤ P * cl := Nat.mul_le_mul_left _ h1
    omega
theorem back_end {S S1 S2 V t P c : Nat} (h1 : S + P = S1 + t * V) (h2 : S1 + V = S2 + P * c) (hS2 : S2 < P) (hV : V ≤ P) (ht : t * V ≤ S + V) (hS : S < P) (hlt : S < t * V) : S2 + t * V = S + V := by
  have hc : c = 1 := by
    rcases Nat.lt_or_ge c 1 with h | h
    · have : c = 0 := by omega
      subst this
      omega
    · rcases Nat.lt_or_ge c 2 with h3 | h3
      · omega
      · have : P * 2 ≤ P * c := Nat.mul_le_mul_left _ h3
        omega
  subst hc
  omega
end
end Go.PM
/- Operations on digits; rows of digits. -/
namespace Go.PM
abbrev uV (d : Nat) : VV := .sc (.int .u32 (d : Int))
abbrev natL (ds : List Nat) : VV := listV uV ds
def natV (n : Nat) : VV := natL (digs 4294967296 n)
theorem uV_len : ∀ d : Nat, (vcells (uV d)).length = 1 := fun _ => rfl
theorem natL_pure (ds : List Nat) : pureV (natL ds) = true := pure_list uV_len fun _ => rfl
theorem natL_res (ds : List Nat) : resV (natL ds) = true := res_list uV_len (fun _ => rfl) fun _ => rfl
theorem natV_pure (n : Nat) : pureV (natV n) = true := natL_pure _
theorem natV_res (n : Nat) : resV (natV n) = true := natL_res _
theorem natV_zero : natV 0 = .tree [] .op := by rw [natV, digs_zero]; rfl
theorem quo_u64 (a b : Nat) (ha : a < 18446744073709551616) (hb : 0 < b) : pbin .quo (.int .u64 (a : Int)) (.int .u64 (b : Int)) = some (.int .u64 ((a / b : Nat) : Int)) := by
  have h1 : ¬ ((b : Int) = 0) := by omega
  have h2 : (a : Int).tdiv (b : Int) = ((a / b : Nat) : Int) := by rw [Int.tdiv_eq_ediv_of_nonneg (by omega)]; simp
  have h3 : a / b ≤ a := Nat.div_le_self _ _
  simp only [pbin, if_true, h1, if_false, h2]
  rw [wrapU _ (by omega)]
theorem rem_u64 (a b : Nat) (hb : 0 < b) : pbin .rem (.int .u64 (a : Int)) (.int .u64 (b : Int)) = some (.int .u64 ((a % b : Nat) : Int)) := by
  have h1 : ¬ ((b : Int) = 0) := by omega
  have h2 : (a : Int).tmod (b : Int) = ((a % b : Nat) : Int) := by rw [Int.tmod_eq_emod_of_nonneg (by omega)]; simp
  simp only [pbin, if_true, h1, if_false, h2]
theorem shl_by (n s : Nat) (hn : n < 4294967296) (hs : s ≤ 31) : pbin .shl (.int .u64 (n : Int)) (.int .i64 (s : Int)) = some (.int .u64 ((n * 2 ^ s : Nat) : Int)) := by
  have h1 : ¬ ((s : Int) < 0) := by omega
  have h2 : Nat.min (Int.toNat (s : Int)) IntKind.u64.bits = s := by
    rw [Int.toNat_natCast]
    exact Nat.min_eq_left (by show s ≤ 64; omega)
  have h3 : 2 ^ s ≤ 2 ^ 31 := Nat.pow_le_pow_right (by decide) hs
  have h4 : n * 2 ^ s ≤ n * 2 ^ 31 := Nat.mul_le_mul_left _ h3
  simp only [pbin, h1, if_false, h2]
  congr 2
  have e : (n : Int) * 2 ^ s = ((n * 2 ^ s : Nat) : Int) := by simp
  rw [e]
  exact wrapU _ (by omega)
theorem shr_by (n s : Nat) (hs : s ≤ 31) : pbin .shr (.int .u64 (n : Int)) (.int .i64 (s : Int)) = some (.int .u64 ((n / 2 ^ s : Nat) : Int)) := by
  have h1 : ¬ ((s : Int) < 0) := by omega
  have h2 : Nat.min (Int.toNat (s : Int)) IntKind.u64.bits = s := by
    rw [Int.toNat_natCast]
    exact Nat.min_eq_left (by show s ≤ 64; omega)
  simp only [pbin, h1, if_false, h2]
  congr 2
  rw [Int.fdiv_eq_ediv_of_nonneg _ (by exact Int.le_of_lt (Int.pow_pos (by decide)))]
  simp
theorem or_u32 (a m s : Nat) (ha : a < 2 ^ s) (hm : m * 2 ^ s + a < 4294967296) : pbin .or (.int .u32 (a : Int)) (.int .u32 ((m * 2 ^ s : Nat) : Int)) = some (.int .u32 ((a + m * 2 ^ s : Nat) : Int)) := by
  have e : a ||| (m * 2 ^ s) = a + m * 2 ^ s := by
    have := Nat.shiftLeft_add_eq_or_of_lt ha m
    rw [Nat.shiftLeft_eq] at this
    rw [Nat.or_comm, ← this, Nat.add_comm]
  have e1 : (BitVec.ofInt IntKind.u32.bits (a : Int) ||| BitVec.ofInt IntKind.u32.bits ((m * 2 ^ s : Nat) : Int)).toNat = a + m * 2 ^ s := by
    show (BitVec.ofInt 32 (a : Int) ||| BitVec.ofInt 32 ((m * 2 ^ s : Nat) : Int)).toNat = a + m * 2 ^ s
    rw [BitVec.toNat_or, BitVec.ofInt_natCast, BitVec.ofInt_natCast, BitVec.toNat_ofNat, BitVec.toNat_ofNat, Nat.mod_eq_of_lt (by omega), Nat.mod_eq_of_lt (by omega), e]
  simp only [pbin, if_true, e1]
  rw [wrap32, Nat.mod_eq_of_lt (by omega)]
section
variable {rows : List Nat} {b g c n e : Nat} {w : Bool} {H : VHeap}
theorem fz_natD {m d : Nat} (hr : vrow H b g = some (rows.map uV, 1, w)) (hn : n ≤ rows.length) (hc : n ≤ c) (he : rows.take n = digs 4294967296 m) : fz (d + 2) H (.ref b g 0 n c) = some (natV m) := by
  have : pureV (.ref b g 0 n c) = false := rfl
  unfold fz
  simp only [this, hr, Bool.false_eq_true, if_false]
  have hp' : pureL ((rows.map uV).take n) = true := by rw [← List.map_take]; exact pure_map fun _ => rfl
  rw [if_pos ⟨by simpa using hn, hc⟩, List.drop_zero, mapM_pure hp', ← List.map_take, he]
  rfl
theorem fz_nat {m : Nat} (hr : vrow H b g = some (rows.map uV, 1, w)) (hn : n ≤ rows.length) (hc : n ≤ c) (he : rows.take n = digs 4294967296 m) : fz depth H (.ref b g 0 n c) = some (natV m) := fz_natD (d := 6) hr hn hc he
theorem fz_tup2 {d : Nat} {u u' v v' : VV} (h1 : fz (d + 1) H u = some u') (h2 : fz (d + 1) H v = some v') : fz (d + 2) H (.tup [u, v]) = some (.tup [u', v']) := by
  have e : fz (d + 2) H (.tup [u, v]) = if pureV (.tup [u, v]) = true then some (.tup [u, v]) else ([u, v].mapM (fz (d + 1) H)).map .tup := rfl
  rw [e]
  by_cases hp : pureV (.tup [u, v]) = true
  · rw [if_pos hp]
    simp only [pureV, pureL, Bool.and_eq_true, and_true] at hp
    rw [fz_pure hp.1] at h1
    rw [fz_pure hp.2] at h2
    cases h1
    cases h2
    rfl
  · rw [if_neg hp, List.mapM_cons, h1, List.mapM_cons, h2]
    rfl
theorem vload_nat {j d : Nat} (hr : vrow H b g = some (rows.map uV, 1, w)) (hj : rows[j]? = some d) : vload false 1 (.ptr b g j 0) H = some (uV d) := vload_row hr hj
theorem last_ne {xs : List Nat} {m d : Nat} (hm : xs.length = m + 1) (hd : xs[m]? = some d) (h : d ≠ 0) : xs.getLast? ≠ some 0 := by
  rw [List.getLast?_eq_getElem?, hm, Nat.add_sub_cancel, hd]
  simpa using h
end
theorem trim_ref {rows : List Nat} {b g n c : Nat} {w : Bool} {H : VHeap} {lo : Nat} (hr : vrow H b g = some (rows.map uV, 1, w)) (hn : n ≤ rows.length) (hc : n ≤ c) (hcap : n ≤ 70368744177664) (hd : ∀ d ∈ rows.take n, d < 4294967296) :
    VRaw 140 [.ref b g 0 n c] lo H fun r H' => H' = H ∧ ∃ k, k ≤ n ∧ r = .ref b g 0 k c ∧ rows.take k = digs 4294967296 (val 4294967296 (rows.take n)) := by
  refine VRaw.walk ⟨true, false⟩ _impl_nat__trim_t (Nat.le_of_ble_eq_true rfl) ?_
  simp only [_impl_nat__trim, _impl_nat__trim_c, VX, Nat.reduceEqDiff, Nat.reduceAdd]
  refine VW_loop (fun (k : Nat) ρ H' => k ≤ n ∧ H' = H ∧ val 4294967296 (rows.take k) = val 4294967296 (rows.take n) ∧ ρ 0 = .ref b g 0 k c) (fun k => k) n ⟨Nat.le_refl _, rfl, rfl, rfl⟩ ?_
  rintro k ρ H' ⟨hk, rfl, hv, h0⟩
  have e0 : vlen (.ref b g 0 k c) H' = some (VI k) := vlen_ref hr
  have done : (rows.take k).getLast? ≠ some 0 → rows.take k = digs 4294967296 (val 4294967296 (rows.take n)) := fun hne => by
    rw [← hv, digs_val (by decide) (fun d h => hd d ?_) hne]
    exact (List.take_sublist_take_left hk).mem h
  rcases Nat.eq_zero_or_pos k with hz | hp
  · subst hz
    simp only [_impl_nat__trim_b0, h0, e0, Int.reduceLT, Int.natCast_zero, VX, Nat.reduceEqDiff, Nat.reduceAdd]
    exact ⟨0, hk, rfl, done (by simp)⟩
  · obtain ⟨m, rfl⟩ : ∃ m, k = m + 1 := ⟨k - 1, by omega⟩
    obtain ⟨d, hdd⟩ : ∃ d, rows[m]? = some d := ⟨_, List.getElem?_eq_getElem (by omega)⟩
    have hp' : (0 : Int) < ((m + 1 : Nat) : Int) := by omega
    have w1 : IntKind.i64.wrap (((m + 1 : Nat) : Int) - 1) = (m : Int) := by rw [wrap64 (by omega) (by omega)]; omega
    have e1 : viaddr 1 (.ref b g 0 (m + 1) c) (VI m) H' = some (.ptr b g m 0) := by rw [viaddr_row hr (by omega), Nat.zero_add]
    have e2 := vload_nat hr hdd
    by_cases hd0 : (d : Int) = 0
    · have hd1 : d = 0 := by omega
      subst hd1
      have e3 : vsub 1 (.ref b g 0 (m + 1) c) none (some (VI m)) none H' = some (.ref b g 0 m c) := vsub_ref_to hr (by omega)
      simp only [_impl_nat__trim_b0, h0, e0, hp', w1, e1, e2, e3, hd0, VX, Nat.reduceEqDiff, Nat.reduceAdd]
      refine ⟨m, by omega, by omega, ?_, rfl⟩
      rw [← hv, val_take_succ hdd, Nat.mul_zero, Nat.add_zero]
    · simp only [_impl_nat__trim_b0, h0, e0, hp', w1, e1, e2, hd0, VX, Nat.reduceEqDiff, Nat.reduceAdd]
      refine ⟨m + 1, hk, rfl, done (last_ne (m := m) (d := d) (by rw [List.length_take]; omega) ?_ (by omega))⟩
      rw [List.getElem?_take_of_lt (by omega)]
      exact hdd
theorem trim_tree (ds : List Nat) (t : TK) {lo : Nat} {H : VHeap} (h : ∀ d ∈ ds, d < 4294967296) (hlen : ds.length ≤ 70368744177664) :
    VRaw 140 [.tree (ds.map uV) t] lo H fun r H' => H' = H ∧ ∃ t', (t' = t ∨ t' = .op) ∧ r = .tree ((digs 4294967296 (val 4294967296 ds)).map uV) t' := by
  refine VRaw.walk ⟨true, false⟩ _impl_nat__trim_t (Nat.le_of_ble_eq_true rfl) ?_
  simp only [_impl_nat__trim, _impl_nat__trim_c, VX, Nat.reduceEqDiff, Nat.reduceAdd]
  refine VW_loop (fun (s : List Nat × TK) ρ H' => (∀ d ∈ s.1, d < 4294967296) ∧ val 4294967296 s.1 = val 4294967296 ds ∧ s.1.length ≤ ds.length ∧ H' = H ∧ (s.2 = t ∨ s.2 = .op) ∧ ρ 0 = .tree (s.1.map uV) s.2) (fun s => s.1.length) (ds, t) ⟨h, rfl, Nat.le_refl _, rfl, .inl rfl, rfl⟩ ?_
  rintro ⟨xs, t'⟩ ρ H' ⟨hx, hv, hl, rfl, ht, h0⟩
  simp only at hx hv hl ht h0
  have done : xs.getLast? ≠ some 0 → xs = digs 4294967296 (val 4294967296 ds) := fun hne => by rw [← hv, digs_val (by decide) hx hne]
  rcases Nat.eq_zero_or_pos xs.length with hz | hp
  · have hxn : xs = [] := List.length_eq_zero_iff.1 hz
    subst hxn
    simp only [_impl_nat__trim_b0, h0, Int.reduceLT, Int.natCast_zero, VX, Nat.reduceEqDiff, Nat.reduceAdd]
    exact ⟨t', ht, by rw [← done (by simp)]; rfl⟩
  · obtain ⟨m, hm⟩ : ∃ m, xs.length = m + 1 := ⟨xs.length - 1, by omega⟩
    obtain ⟨d, hd⟩ : ∃ d, xs[m]? = some d := ⟨_, List.getElem?_eq_getElem (by omega)⟩
    have hp' : (0 : Int) < ((m + 1 : Nat) : Int) := by omega
    have w1 : IntKind.i64.wrap (((m + 1 : Nat) : Int) - 1) = (m : Int) := by rw [wrap64 (by omega) (by omega)]; omega
    have e1 := viaddr_map (f := uV) (t := t') (H := H') (size := 1) (k := .i64) hd rfl
    by_cases hd0 : (d : Int) = 0
    · have hd1 : d = 0 := by omega
      subst hd1
      have e2 := vsub_map_to (f := uV) (size := 1) (t := t') (H := H') (k2 := .i64) (xs := xs) (h := m) uV_len (by omega) (by omega)
      have hsp : xs = xs.take m ++ [0] := by
        have := List.take_append_drop m xs
        have h3 := (List.getElem?_eq_some_iff.1 hd)
        rw [List.drop_eq_getElem_cons h3.1, h3.2, List.drop_of_length_le (by omega)] at this
        exact this.symm
      simp only [_impl_nat__trim_b0, h0, hm, hp', w1, e1, e2, hd0, VX, Nat.reduceEqDiff, Nat.reduceAdd]
      refine ⟨(xs.take m, .op), by simp only [List.length_take]; omega, fun d hd => hx d (List.mem_of_mem_take hd), ?_, by simp only [List.length_take]; omega, .inr rfl, rfl⟩
      rw [← hv]
      conv => rhs; rw [hsp]
      rw [val_snoc]
      simp
    · simp only [_impl_nat__trim_b0, h0, hm, hp', w1, e1, hd0, VX, Nat.reduceEqDiff, Nat.reduceAdd]
      exact ⟨t', ht, by rw [← done (last_ne hm hd (by omega))]⟩
theorem trim_call {rows : List Nat} {b g n c : Nat} {w : Bool} {H : VHeap} {K : VV → VHeap → Prop} {m lo : Nat} (hr : vrow H b g = some (rows.map uV, 1, w)) (hn : n ≤ rows.length) (hc : n ≤ c) (hcap : n ≤ 70368744177664) (hd : ∀ d ∈ rows.take n, d < 4294967296) (hm : val 4294967296 (rows.take n) = m)
    (hk : ∀ k, k ≤ n → rows.take k = digs 4294967296 m → K (.ref b g 0 k c) H) : vcallP 140 [.ref b g 0 n c] lo H K := by
  refine vcall_raw rfl ((trim_ref hr hn hc hcap hd).mono ?_)
  rintro r H' ⟨rfl, k, h1, rfl, h2⟩
  rw [hm] at h2
  exact hk k h1 h2
theorem trim_callT {ds : List Nat} {t : TK} {lo : Nat} {H : VHeap} {K : VV → VHeap → Prop} {m : Nat} (h : ∀ d ∈ ds, d < 4294967296) (hlen : ds.length ≤ 70368744177664) (hm : val 4294967296 ds = m) (hk : ∀ t', (t' = t ∨ t' = .op) → K (.tree ((digs 4294967296 m).map uV) t') H) : vcallP 140 [.tree (ds.map uV) t] lo H K := by
  refine vcall_raw rfl ((trim_tree ds t h hlen).mono ?_)
  rintro r H' ⟨rfl, t', h1, rfl⟩
  rw [hm]
  exact hk t' h1
theorem fz_natT {H : VHeap} {m : Nat} {t : TK} (ht : t = .cl 1 ∨ t = .op) : fz depth H (.tree ((digs 4294967296 m).map uV) t) = some (natV m) := by
  rcases ht with rfl | rfl
  · exact fz_cl (pure_map fun _ => rfl)
  · exact fz_res (natV_pure m)
end Go.PM
/- The program's numbers of at least 0: cutting noughts, comparing. -/
namespace Go.PM
theorem impl_natOf_v (n : Nat) (h : n < 18446744073709551616) : TC 101 [VK .u64 n] (natV n) := by
  refine TC.walk ⟨true, false⟩ impl_natOf_t rfl (Nat.le_of_ble_eq_true rfl) rfl (natV_res _) ?_
  have e1 := vlit_two (H := []) (z := [.int .u32 0]) (u := uV (n % 4294967296)) (v := uV (n / 4294967296 % 4294967296)) rfl rfl rfl rfl rfl
  have hm : ∀ d ∈ [n % 4294967296, n / 4294967296 % 4294967296], d < 4294967296 := by
    intro d hd
    simp only [List.mem_cons, List.not_mem_nil, or_false] at hd
    rcases hd with rfl | rfl <;> exact Nat.mod_lt _ (by decide)
  have hv : val 4294967296 [n % 4294967296, n / 4294967296 % 4294967296] = n := by
    simp only [val]
    have := Nat.mod_add_div n 4294967296
    rw [Nat.mod_eq_of_lt (show n / 4294967296 < 4294967296 by omega)]
    omega
  simp only [impl_natOf, impl_natOf_c, wrap32, shr_u64, e1, VX, Nat.reduceEqDiff, Nat.reduceAdd]
  refine trim_callT (ds := [n % 4294967296, n / 4294967296 % 4294967296]) (t := .cl 1) hm (by show 2 ≤ 70368744177664; decide) hv fun t' ht => ?_
  simp only [VX, Nat.reduceEqDiff, Nat.reduceAdd]
  exact fz_natT ht
theorem impl_nat_small_v (n : Nat) (hn : (digs 4294967296 n).length ≤ 17592186044416) : TC 151 [natV n] (if (digs 4294967296 n).length ≤ 2 then .tup [VK .u64 n, VB true] else .tup [VK .u64 0, VB false]) := by
  refine TC.walk ⟨true, false⟩ _impl_nat__small_t rfl (Nat.le_of_ble_eq_true rfl) (by simp [pureL, natV_pure]) (by split <;> rfl) ?_
  have hv := val_digs (b := 4294967296) (by decide) n
  have hl := digs_lt (b := 4294967296) (by decide) n
  unfold natV natL
  generalize digs 4294967296 n = ds at *
  have w1 : IntKind.i64.wrap ((ds.length : Int) - 1) = (ds.length : Int) - 1 := wrap64 (by omega) (by omega)
  simp only [_impl_nat__small, _impl_nat__small_c, w1, VX, Nat.reduceEqDiff, Nat.reduceAdd]
  by_cases h2 : ds.length ≤ 2
  · rw [if_pos h2]
    have c2 : (ds.length : Int) ≤ 2 := by omega
    refine VW_loop (fun (j : Nat) ρ H => j ≤ ds.length ∧ H = [] ∧ ρ 0 = listV uV ds ∧ ρ 4 = VK .u64 (val 4294967296 (ds.drop j) : Nat) ∧ ρ 5 = VI ((j : Int) - 1)) (fun j => j) ds.length ⟨Nat.le_refl _, rfl, rfl, by rw [List.drop_length]; rfl, rfl⟩ ?_
    rintro j ρ H ⟨hj, rfl, g0, g4, g5⟩
    by_cases hz : (0 : Int) ≤ (j : Int) - 1
    · obtain ⟨i, rfl⟩ : ∃ i, j = i + 1 := ⟨j - 1, by omega⟩
      obtain ⟨x, hx⟩ : ∃ x, ds[i]? = some x := ⟨_, List.getElem?_eq_getElem (by omega)⟩
      have hji : ((i + 1 : Nat) : Int) - 1 = (i : Int) := by omega
      rw [hji] at g5 hz
      have e1 := viaddr_map (f := uV) (t := .op) (H := []) (size := 1) (k := .i64) hx rfl
      have lx := hl x (List.mem_of_getElem? hx)
      have ld := val_lt (b := 4294967296) (xs := ds.drop (i + 1)) fun d hd => hl d (List.mem_of_mem_drop hd)
      have hle : (ds.drop (i + 1)).length ≤ 1 := by rw [List.length_drop]; omega
      have hpw : 4294967296 ^ (ds.drop (i + 1)).length ≤ 4294967296 ^ 1 := Nat.pow_le_pow_right (by decide) hle
      rw [Nat.pow_one] at hpw
      have w2 : IntKind.i64.wrap ((i : Int) - 1) = (i : Int) - 1 := wrap64 (by omega) (by omega)
      have w3 : IntKind.u64.wrap (x : Int) = (x : Int) := wrapU _ (by omega)
      have w4 : IntKind.u64.wrap (((val 4294967296 (ds.drop (i + 1)) * 4294967296 : Nat) : Int) + (x : Int)) = ((val 4294967296 (ds.drop i) : Nat) : Int) := by
        rw [val_drop hx, ← Int.natCast_add, wrapU _ (by omega)]
        congr 1
        omega
      have w5 := shl_u64 (val 4294967296 (ds.drop (i + 1))) .u64 (by omega)
      simp only [_impl_nat__small_b0, g0, g4, g5, hz, c2, e1, w2, w3, w4, w5, VX, Nat.reduceEqDiff, Nat.reduceAdd]
      exact ⟨i, by omega, by omega, by (repeat' apply And.intro) <;> first | rfl | trivial⟩
    · have hj0 : j = 0 := by omega
      subst hj0
      rw [List.drop_zero, hv] at g4
      simp only [_impl_nat__small_b0, g0, g4, g5, hz, c2, VX, Nat.reduceEqDiff, Nat.reduceAdd]
      exact fz_res rfl
  · rw [if_neg h2]
    have c2 : ¬ (ds.length : Int) ≤ 2 := by omega
    have c3 : (0 : Int) ≤ (ds.length : Int) - 1 := by omega
    refine VW_loop (fun (j : Nat) ρ H => H = [] ∧ ρ 0 = listV uV ds ∧ ρ 4 = VK .u64 0 ∧ ρ 5 = VI ((ds.length : Int) - 1)) (fun j => j) 0 ⟨rfl, rfl, rfl, rfl⟩ ?_
    rintro j ρ H ⟨rfl, g0, g4, g5⟩
    simp only [_impl_nat__small_b0, g0, g4, g5, c2, c3, VX, Nat.reduceEqDiff, Nat.reduceAdd]
    exact fz_res rfl
theorem impl_nat_cmp_v (a b : Nat) (ha : (digs 4294967296 a).length ≤ 17592186044416) (hb : (digs 4294967296 b).length ≤ 17592186044416) : TC 111 [natV a, natV b] (VI (cmpI a b)) := by
  refine TC.walk ⟨true, false⟩ _impl_nat__cmp_t rfl (Nat.le_of_ble_eq_true rfl) (by simp [pureL, natV_pure]) rfl ?_
  have fin : ∀ {x : Int}, x = cmpI a b → fz depth [] (VI x) = some (VI (cmpI a b)) := fun h => by rw [h]; exact fz_res rfl
  unfold natV natL
  by_cases hl : (((digs 4294967296 a).length : Nat) : Int) = (((digs 4294967296 b).length : Nat) : Int)
  · have hl' : (digs 4294967296 a).length = (digs 4294967296 b).length := by omega
    have w1 : IntKind.i64.wrap ((((digs 4294967296 b).length : Nat) : Int) - 1) = (((digs 4294967296 b).length : Nat) : Int) - 1 := wrap64 (by omega) (by omega)
    simp only [_impl_nat__cmp, _impl_nat__cmp_c, hl, w1, VX, Nat.reduceEqDiff, Nat.reduceAdd]
    refine VW_loop (fun (j : Nat) ρ H => j ≤ (digs 4294967296 b).length ∧ H = [] ∧ (digs 4294967296 a).drop j = (digs 4294967296 b).drop j ∧ ρ 0 = listV uV (digs 4294967296 a) ∧ ρ 1 = listV uV (digs 4294967296 b) ∧ ρ 5 = VI ((j : Int) - 1)) (fun j => j) (digs 4294967296 b).length ⟨Nat.le_refl _, rfl, by rw [List.drop_length, ← hl', List.drop_length], rfl, rfl, rfl⟩ ?_
    rintro j ρ H ⟨hj, rfl, hd, h0, h1, h5⟩
    by_cases hz : (0 : Int) ≤ (j : Int) - 1
    · obtain ⟨i, rfl⟩ : ∃ i, j = i + 1 := ⟨j - 1, by omega⟩
      obtain ⟨x, hx⟩ : ∃ x, (digs 4294967296 a)[i]? = some x := ⟨_, List.getElem?_eq_getElem (by omega)⟩
      obtain ⟨y, hy⟩ : ∃ y, (digs 4294967296 b)[i]? = some y := ⟨_, List.getElem?_eq_getElem (by omega)⟩
      have hji : ((i + 1 : Nat) : Int) - 1 = (i : Int) := by omega
      have e1 := viaddr_map (f := uV) (t := .op) (H := []) (size := 1) (k := .i64) hx rfl
      have e2 := viaddr_map (f := uV) (t := .op) (H := []) (size := 1) (k := .i64) hy rfl
      rw [hji] at h5 hz
      have w2 : IntKind.i64.wrap ((i : Int) - 1) = (i : Int) - 1 := wrap64 (by omega) (by omega)
      by_cases hxy : (x : Int) = (y : Int)
      · simp only [_impl_nat__cmp_b0, h0, h1, h5, hz, e1, e2, hxy, w2, VX, Nat.reduceEqDiff, Nat.reduceAdd]
        have hxy' : x = y := by omega
        subst hxy'
        refine ⟨i, by omega, by omega, ?_⟩
        obtain ⟨g1, g2⟩ := List.getElem?_eq_some_iff.1 hx
        obtain ⟨g3, g4⟩ := List.getElem?_eq_some_iff.1 hy
        rw [List.drop_eq_getElem_cons g1, List.drop_eq_getElem_cons g3, g2, g4, hd]
        exact ⟨rfl, rfl⟩
      · by_cases hlt : (x : Int) < (y : Int)
        · simp only [_impl_nat__cmp_b0, h0, h1, h5, hz, e1, e2, hxy, hlt, VX, Nat.reduceEqDiff, Nat.reduceAdd]
          refine fin ?_
          have := cmp_digit (digs_lt (by decide) a) hl' hx hy hd (by omega)
          rw [val_digs (by decide), val_digs (by decide)] at this
          simp [cmpI, this]
        · simp only [_impl_nat__cmp_b0, h0, h1, h5, hz, e1, e2, hxy, hlt, VX, Nat.reduceEqDiff, Nat.reduceAdd]
          refine fin ?_
          have := cmp_digit (digs_lt (by decide) b) hl'.symm hy hx hd.symm (by omega)
          rw [val_digs (by decide), val_digs (by decide)] at this
          rw [cmpI, if_neg (by omega), if_neg (by omega)]
    · have hj0 : j = 0 := by omega
      subst hj0
      simp only [_impl_nat__cmp_b0, h0, h1, h5, hz, VX, Nat.reduceEqDiff, Nat.reduceAdd]
      refine fin ?_
      have := digs_inj (b := 4294967296) (by decide) (by simpa using hd)
      subst this
      simp [cmpI]
  · by_cases hlt : (((digs 4294967296 a).length : Nat) : Int) < (((digs 4294967296 b).length : Nat) : Int)
    · simp only [_impl_nat__cmp, _impl_nat__cmp_c, hl, hlt, VX, Nat.reduceEqDiff, Nat.reduceAdd]
      refine fin ?_
      have := lt_of_len (b := 4294967296) (by decide) (m := a) (n := b) (by omega)
      simp [cmpI, this]
    · simp only [_impl_nat__cmp, _impl_nat__cmp_c, hl, hlt, VX, Nat.reduceEqDiff, Nat.reduceAdd]
      refine fin ?_
      have := lt_of_len (b := 4294967296) (by decide) (m := b) (n := a) (by omega)
      rw [cmpI, if_neg (by omega), if_neg (by omega)]
end Go.PM
/- The program's numbers of at least 0: sums and differences. -/
namespace Go.PM
theorem row_get {es : List VV} {g e : Nat} {w : Bool} : vrow [.row g es e w] 0 g = some (es, e, w) := vrow_zero
theorem add_loop {x y : Nat} {ρ : VEnv} {Q : VQ} (hx : (digs 4294967296 x).length ≤ 17592186044416) (hl : (digs 4294967296 y).length ≤ (digs 4294967296 x).length) (h0 : ρ 0 = natV x) (h1 : ρ 1 = natV y) (h5 : ρ 5 = .ref 0 0 0 ((digs 4294967296 x).length + 1) ((digs 4294967296 x).length + 1)) (h6 : ρ 6 = VK .u64 0) (h20 : ρ 20 = VI (digs 4294967296 x).length) (h21 : ρ 21 = VI 0)
    (hQ : ∀ (ρ' : VEnv) (outs : List Nat) (c : Nat), ρ' 0 = natV x → ρ' 5 = .ref 0 0 0 ((digs 4294967296 x).length + 1) ((digs 4294967296 x).length + 1) → ρ' 6 = VK .u64 (c : Nat) → outs.length = (digs 4294967296 x).length + 1 → (∀ d ∈ outs, d < 4294967296) → c ≤ 1 → x + y = val 4294967296 (outs.take (digs 4294967296 x).length) + 4294967296 ^ (digs 4294967296 x).length * c → Q (.exit 0) ρ' [.row 0 (outs.map uV) 1 true]) :
    VW ⟨true, false⟩ 0 (.loop _impl_nat__add_b0) Q ρ [.row 0 ((List.replicate ((digs 4294967296 x).length + 1) 0).map uV) 1 true] := by
  unfold natV at h0 h1 hQ
  have vx := val_digs (b := 4294967296) (by decide) x
  have vy := val_digs (b := 4294967296) (by decide) y
  have lx := digs_lt (b := 4294967296) (by decide) x
  have ly := digs_lt (b := 4294967296) (by decide) y
  generalize digs 4294967296 x = xs at *
  generalize digs 4294967296 y = ys at *
  refine VW_loop (fun (s : Nat × List Nat × Nat) ρ H => s.1 ≤ xs.length ∧ H = [.row 0 (s.2.1.map uV) 1 true] ∧ s.2.1.length = xs.length + 1 ∧ (∀ d ∈ s.2.1, d < 4294967296) ∧ s.2.2 ≤ 1 ∧ val 4294967296 (xs.take s.1) + val 4294967296 (ys.take s.1) = val 4294967296 (s.2.1.take s.1) + 4294967296 ^ s.1 * s.2.2 ∧
    ρ 0 = natL xs ∧ ρ 1 = natL ys ∧ ρ 5 = .ref 0 0 0 (xs.length + 1) (xs.length + 1) ∧ ρ 6 = VK .u64 s.2.2 ∧ ρ 20 = VI xs.length ∧ ρ 21 = VI s.1) (fun s => xs.length - s.1) (0, List.replicate (xs.length + 1) 0, 0) ?_ ?_
  · exact ⟨Nat.zero_le _, rfl, by simp, rep_lt (by decide) _, by simp, by simp [val], h0, h1, h5, h6, h20, h21⟩
  · rintro ⟨i, outs, c⟩ ρ H ⟨hi, rfl, hol, hod, hc, hv, g0, g1, g5, g6, g20, g21⟩
    simp only at hi hol hod hc hv g6 g21
    by_cases hin : (i : Int) < (xs.length : Int)
    · obtain ⟨a, ha⟩ : ∃ a, xs[i]? = some a := ⟨_, List.getElem?_eq_getElem (by omega)⟩
      have la := lx a (List.mem_of_getElem? ha)
      have e1 := viaddr_map (f := uV) (t := .op) (H := [.row 0 (outs.map uV) 1 true]) (size := 1) (k := .i64) ha rfl
      have w1 : IntKind.u64.wrap (a : Int) = (a : Int) := wrapU _ (by omega)
      have w2 : IntKind.u64.wrap ((c : Int) + (a : Int)) = ((c + a : Nat) : Int) := by rw [← Int.natCast_add]; exact wrapU _ (by omega)
      have wi : IntKind.i64.wrap ((i : Int) + 1) = ((i + 1 : Nat) : Int) := wrapN (i + 1) (by omega) (by omega)
      have e3 := viaddr_row (H := [.row 0 (outs.map uV) 1 true]) (b := 0) (g := 0) (o := 0) (n := xs.length + 1) (c := xs.length + 1) (i := i) (k := .i64) row_get (by omega)
      have e4 : ∀ s : Nat, vstore 0 1 (.ptr 0 0 i 0) (uV s) [.row 0 (outs.map uV) 1 true] = some [.row 0 ((outs.set i s).map uV) 1 true] := fun s => by
        rw [vstore_map (f := uV) (e := 1) row_get (by omega) (Nat.le_refl _) rfl rfl]
        rfl
      have step : ∀ b, b < 4294967296 → (∀ d, ys[i]? = some d → d = b) → (ys.length ≤ i → b = 0) →
          (i + 1 ≤ xs.length ∧ (outs.set i ((c + a + b) % 4294967296)).length = xs.length + 1 ∧ (∀ d ∈ outs.set i ((c + a + b) % 4294967296), d < 4294967296) ∧ (c + a + b) / 4294967296 ≤ 1 ∧ val 4294967296 (xs.take (i + 1)) + val 4294967296 (ys.take (i + 1)) = val 4294967296 ((outs.set i ((c + a + b) % 4294967296)).take (i + 1)) + 4294967296 ^ (i + 1) * ((c + a + b) / 4294967296)) := by
        intro b hb h1 h2
        refine ⟨by omega, by rw [List.length_set]; exact hol, set_lt hod (Nat.mod_lt _ (by decide)), by omega, ?_⟩
        have hy : val 4294967296 (ys.take (i + 1)) = val 4294967296 (ys.take i) + 4294967296 ^ i * b := by
          cases hyi : ys[i]? with
          | some d => rw [val_take_succ hyi, h1 d hyi]
          | none =>
            have hle := List.getElem?_eq_none_iff.1 hyi
            rw [h2 hle, val_take_ge hle, val_take_ge (by omega), Nat.mul_zero, Nat.add_zero]
        rw [val_take_succ ha, hy, val_set_take (by omega), Nat.pow_succ]
        exact carry_step hv rfl (Nat.mod_add_div _ _)
      by_cases hlt : (i : Int) < (ys.length : Int)
      · obtain ⟨b, hb⟩ : ∃ b, ys[i]? = some b := ⟨_, List.getElem?_eq_getElem (by omega)⟩
        have lb := ly b (List.mem_of_getElem? hb)
        have e2 := viaddr_map (f := uV) (t := .op) (H := [.row 0 (outs.map uV) 1 true]) (size := 1) (k := .i64) hb rfl
        have w3 : IntKind.u64.wrap (b : Int) = (b : Int) := wrapU _ (by omega)
        have w4 : IntKind.u64.wrap (((c + a : Nat) : Int) + (b : Int)) = ((c + a + b : Nat) : Int) := by rw [← Int.natCast_add]; exact wrapU _ (by omega)
        obtain ⟨s1, s2, s3, s4, s5⟩ := step b lb (fun d hd => by rw [hb] at hd; injection hd with hd; exact hd.symm) (fun h => by omega)
        simp only [_impl_nat__add_b0, g0, g1, g5, g6, g20, g21, hin, hlt, e1, e2, e3, e4, w1, w2, w3, w4, wi, wrap32, shr_u64, VX, Nat.reduceEqDiff, Nat.reduceAdd]
        exact ⟨(i + 1, outs.set i ((c + a + b) % 4294967296), (c + a + b) / 4294967296), by simp only; omega, s1, rfl, s2, s3, s4, s5, by (repeat' apply And.intro) <;> first | rfl | trivial⟩
      · obtain ⟨s1, s2, s3, s4, s5⟩ := step 0 (by decide) (fun d hd => by have := (List.getElem?_eq_some_iff.1 hd).1; omega) (fun _ => rfl)
        simp only [Nat.add_zero] at s2 s3 s4 s5
        simp only [_impl_nat__add_b0, g0, g1, g5, g6, g20, g21, hin, hlt, e1, e3, e4, w1, w2, wi, wrap32, shr_u64, VX, Nat.reduceEqDiff, Nat.reduceAdd]
        exact ⟨(i + 1, outs.set i ((c + a) % 4294967296), (c + a) / 4294967296), by simp only; omega, s1, rfl, s2, s3, s4, s5, by (repeat' apply And.intro) <;> first | rfl | trivial⟩
    · have hie : i = xs.length := by omega
      subst hie
      simp only [_impl_nat__add_b0, g0, g1, g5, g6, g20, g21, hin, VX, Nat.reduceEqDiff, Nat.reduceAdd]
      refine hQ _ outs c g0 g5 g6 hol hod hc ?_
      rw [List.take_length, List.take_of_length_le (l := ys) hl, vx, vy] at hv
      exact hv
theorem impl_nat_add_v (a b : Nat) (ha : (digs 4294967296 a).length ≤ 17592186044416) (hb : (digs 4294967296 b).length ≤ 17592186044416) : TC 113 [natV a, natV b] (natV (a + b)) := by
  refine TC.walk ⟨true, false⟩ _impl_nat__add_t rfl (Nat.le_of_ble_eq_true rfl) (by simp [pureL, natV_pure]) (natV_res _) ?_
  have mk : ∀ n : Nat, n ≤ 17592186044416 → vmake [.int .u32 0] 4 (VI ((n + 1 : Nat) : Int)) (VI ((n + 1 : Nat) : Int)) [] = some (.ref 0 0 0 (n + 1) (n + 1), [.row 0 ((List.replicate (n + 1) 0).map uV) 1 true]) := fun n hn => vmake_map (f := uV) (x := 0) rfl (by omega) (by omega)
  have fin : ∀ (x y : Nat) (outs : List Nat) (c : Nat), (digs 4294967296 x).length ≤ 17592186044416 → x + y = a + b → outs.length = (digs 4294967296 x).length + 1 → (∀ d ∈ outs, d < 4294967296) → c ≤ 1 → x + y = val 4294967296 (outs.take (digs 4294967296 x).length) + 4294967296 ^ (digs 4294967296 x).length * c →
      viaddr 1 (.ref 0 0 0 ((digs 4294967296 x).length + 1) ((digs 4294967296 x).length + 1)) (VI ((digs 4294967296 x).length : Nat)) [.row 0 (outs.map uV) 1 true] = some (.ptr 0 0 (0 + (digs 4294967296 x).length) 0) ∧
      vstore 0 1 (.ptr 0 0 (digs 4294967296 x).length 0) (uV (c % 4294967296)) [.row 0 (outs.map uV) 1 true] = some [.row 0 ((outs.set (digs 4294967296 x).length (c % 4294967296)).map uV) 1 true] ∧
      ∀ lo K, (∀ k, k ≤ (digs 4294967296 x).length + 1 → (outs.set (digs 4294967296 x).length (c % 4294967296)).take k = digs 4294967296 (a + b) → K (.ref 0 0 0 k ((digs 4294967296 x).length + 1)) [.row 0 ((outs.set (digs 4294967296 x).length (c % 4294967296)).map uV) 1 true]) →
        vcallP 140 [.ref 0 0 0 ((digs 4294967296 x).length + 1) ((digs 4294967296 x).length + 1)] lo [.row 0 ((outs.set (digs 4294967296 x).length (c % 4294967296)).map uV) 1 true] K := by
    intro x y outs c hx hxy hol hod hc hv
    have hset := set_lt (i := (digs 4294967296 x).length) hod (show c % 4294967296 < 4294967296 from Nat.mod_lt _ (by decide))
    have hval : val 4294967296 (outs.set (digs 4294967296 x).length (c % 4294967296)) = a + b := by
      have h1 := val_set_take (b := 4294967296) (xs := outs) (i := (digs 4294967296 x).length) (d := c % 4294967296) (by omega)
      rw [List.take_of_length_le (by rw [List.length_set]; omega)] at h1
      rw [h1, Nat.mod_eq_of_lt (Nat.lt_of_le_of_lt hc (by decide)), ← hv, hxy]
    refine ⟨viaddr_row row_get (by omega), ?_, ?_⟩
    · rw [vstore_map (f := uV) (e := 1) row_get (by omega) (Nat.le_refl _) rfl rfl]
      rfl
    · intro lo K hk
      have hol' : (outs.set (digs 4294967296 x).length (c % 4294967296)).length = (digs 4294967296 x).length + 1 := by rw [List.length_set]; exact hol
      exact trim_call row_get (by omega) (Nat.le_refl _) (by omega) (fun d hd => hset d (List.mem_of_mem_take hd)) (by rw [List.take_of_length_le (by omega)]; exact hval) hk
  by_cases hsw : (((digs 4294967296 a).length : Nat) : Int) < (((digs 4294967296 b).length : Nat) : Int)
  · have w1 : IntKind.i64.wrap (((digs 4294967296 b).length : Int) + 1) = (((digs 4294967296 b).length + 1 : Nat) : Int) := wrapN _ (by omega) (by omega)
    simp only [_impl_nat__add, _impl_nat__add_c, natV, hsw, w1, mk _ hb, VX, Nat.reduceEqDiff, Nat.reduceAdd]
    refine add_loop (x := b) (y := a) hb (by omega) rfl rfl rfl rfl rfl rfl ?_
    intro ρ' outs c g0 g5 g6 hol hod hc hv
    obtain ⟨e1, e2, e3⟩ := fin b a outs c hb (by omega) hol hod hc hv
    simp only [g0, g5, g6, natV, wrap32, e1, e2, VX, Nat.reduceEqDiff, Nat.reduceAdd]
    refine e3 _ _ fun k hk he => ?_
    simp only [VX, Nat.reduceEqDiff, Nat.reduceAdd]
    exact fz_nat row_get (by rw [List.length_set]; omega) hk he
  · have w1 : IntKind.i64.wrap (((digs 4294967296 a).length : Int) + 1) = (((digs 4294967296 a).length + 1 : Nat) : Int) := wrapN _ (by omega) (by omega)
    simp only [_impl_nat__add, _impl_nat__add_c, natV, hsw, w1, mk _ ha, VX, Nat.reduceEqDiff, Nat.reduceAdd]
    refine add_loop (x := a) (y := b) ha (by omega) rfl rfl rfl rfl rfl rfl ?_
    intro ρ' outs c g0 g5 g6 hol hod hc hv
    obtain ⟨e1, e2, e3⟩ := fin a b outs c ha rfl hol hod hc hv
    simp only [g0, g5, g6, natV, wrap32, e1, e2, VX, Nat.reduceEqDiff, Nat.reduceAdd]
    refine e3 _ _ fun k hk he => ?_
    simp only [VX, Nat.reduceEqDiff, Nat.reduceAdd]
    exact fz_nat row_get (by rw [List.length_set]; omega) hk he
end Go.PM
/- The program's numbers of at least 0: differences and products. -/
namespace Go.PM
theorem wrap_neg {x : Int} {r : Nat} (h : x + 4294967296 = r) (hx : x < 0) (hr : 0 ≤ x + 4294967296) : IntKind.u32.wrap x = (r : Int) := by rw [IntKind.wrap_u32]; omega
theorem mk_row (n : Nat) (hn : n ≤ 70368744177664) : vmake [.int .u32 0] 4 (VI (n : Int)) (VI (n : Int)) [] = some (.ref 0 0 0 n n, [.row 0 ((List.replicate n 0).map uV) 1 true]) := vmake_map (f := uV) (x := 0) rfl (by omega) (by omega)
theorem st_row {outs : List Nat} {i d : Nat} (hi : i < outs.length) : vstore 0 1 (.ptr 0 0 i 0) (uV d) [.row 0 (outs.map uV) 1 true] = some [.row 0 ((outs.set i d).map uV) 1 true] := by
  rw [vstore_map (f := uV) (e := 1) row_get hi (Nat.le_refl _) rfl rfl]
  rfl
theorem impl_nat_sub_v (a b : Nat) (hab : b ≤ a) (ha : (digs 4294967296 a).length ≤ 17592186044416) : TC 114 [natV a, natV b] (natV (a - b)) := by
  refine TC.walk ⟨true, false⟩ _impl_nat__sub_t rfl (Nat.le_of_ble_eq_true rfl) (by simp [pureL, natV_pure]) (natV_res _) ?_
  have va := val_digs (b := 4294967296) (by decide) a
  have vb := val_digs (b := 4294967296) (by decide) b
  have la := digs_lt (b := 4294967296) (by decide) a
  have lb := digs_lt (b := 4294967296) (by decide) b
  have hle := digs_len_mono (b := 4294967296) (by decide) hab
  unfold natV
  generalize digs 4294967296 a = xs at *
  generalize digs 4294967296 b = ys at *
  simp only [_impl_nat__sub, _impl_nat__sub_c, mk_row xs.length (by omega), VX, Nat.reduceEqDiff, Nat.reduceAdd]
  refine VW_loop (fun (s : Nat × List Nat × Nat) ρ H => s.1 ≤ xs.length ∧ H = [.row 0 (s.2.1.map uV) 1 true] ∧ s.2.1.length = xs.length ∧ (∀ d ∈ s.2.1, d < 4294967296) ∧ s.2.2 ≤ 1 ∧ val 4294967296 (xs.take s.1) + 4294967296 ^ s.1 * s.2.2 = val 4294967296 (s.2.1.take s.1) + val 4294967296 (ys.take s.1) ∧
    ρ 0 = natL xs ∧ ρ 1 = natL ys ∧ ρ 5 = .ref 0 0 0 xs.length xs.length ∧ ρ 6 = VI s.2.2 ∧ ρ 13 = VI xs.length ∧ ρ 14 = VI s.1) (fun s => xs.length - s.1) (0, List.replicate xs.length 0, 0) ⟨Nat.zero_le _, rfl, by simp, rep_lt (by decide) _, by simp, by simp [val], rfl, rfl, rfl, rfl, rfl, rfl⟩ ?_
  rintro ⟨i, outs, l⟩ ρ H ⟨hi, rfl, hol, hod, hc, hv, g0, g1, g5, g6, g13, g14⟩
  simp only at hi hol hod hc hv g6 g14
  by_cases hin : (i : Int) < (xs.length : Int)
  · obtain ⟨x, hx⟩ : ∃ x, xs[i]? = some x := ⟨_, List.getElem?_eq_getElem (by omega)⟩
    have lx := la x (List.mem_of_getElem? hx)
    have e1 := viaddr_map (f := uV) (t := .op) (H := [.row 0 (outs.map uV) 1 true]) (size := 1) (k := .i64) hx rfl
    have w1 : IntKind.i64.wrap (x : Int) = (x : Int) := wrapN x rfl (by omega)
    have w2 : IntKind.i64.wrap ((x : Int) - (l : Int)) = (x : Int) - (l : Int) := wrap64 (by omega) (by omega)
    have wi : IntKind.i64.wrap ((i : Int) + 1) = ((i + 1 : Nat) : Int) := wrapN (i + 1) (by omega) (by omega)
    have e3 : viaddr 1 (.ref 0 0 0 xs.length xs.length) (VI i) [.row 0 (outs.map uV) 1 true] = some (.ptr 0 0 i 0) := by rw [viaddr_row row_get (by omega), Nat.zero_add]
    have e4 : ∀ s : Nat, vstore 0 1 (.ptr 0 0 i 0) (uV s) [.row 0 (outs.map uV) 1 true] = some [.row 0 ((outs.set i s).map uV) 1 true] := fun s => st_row (by omega)
    have step : ∀ y r l' : Nat, y < 4294967296 → r < 4294967296 → l' ≤ 1 → (∀ d, ys[i]? = some d → d = y) → (ys.length ≤ i → y = 0) → r + y + l = x + 4294967296 * l' →
        i + 1 ≤ xs.length ∧ (outs.set i r).length = xs.length ∧ (∀ d ∈ outs.set i r, d < 4294967296) ∧ l' ≤ 1 ∧ val 4294967296 (xs.take (i + 1)) + 4294967296 ^ (i + 1) * l' = val 4294967296 ((outs.set i r).take (i + 1)) + val 4294967296 (ys.take (i + 1)) := by
      intro y r l' _ hr hl' h1 h2 hd
      refine ⟨by omega, by rw [List.length_set]; exact hol, set_lt hod hr, hl', ?_⟩
      have hy : val 4294967296 (ys.take (i + 1)) = val 4294967296 (ys.take i) + 4294967296 ^ i * y := by
        cases hyi : ys[i]? with
        | some d => rw [val_take_succ hyi, h1 d hyi]
        | none =>
          have hle := List.getElem?_eq_none_iff.1 hyi
          rw [h2 hle, val_take_ge hle, val_take_ge (by omega), Nat.mul_zero, Nat.add_zero]
      rw [val_take_succ hx, hy, val_set_take (by omega), Nat.pow_succ]
      exact borrow_step hv hd
    by_cases hlt : (i : Int) < (ys.length : Int)
    · obtain ⟨y, hy⟩ : ∃ y, ys[i]? = some y := ⟨_, List.getElem?_eq_getElem (by omega)⟩
      have ly := lb y (List.mem_of_getElem? hy)
      have e2 := viaddr_map (f := uV) (t := .op) (H := [.row 0 (outs.map uV) 1 true]) (size := 1) (k := .i64) hy rfl
      have w3 : IntKind.i64.wrap (y : Int) = (y : Int) := wrapN y rfl (by omega)
      have w4 : IntKind.i64.wrap ((x : Int) - (l : Int) - (y : Int)) = (x : Int) - (l : Int) - (y : Int) := wrap64 (by omega) (by omega)
      by_cases hneg : (x : Int) - (l : Int) - (y : Int) < 0
      · obtain ⟨r, hr⟩ : ∃ r : Nat, r + y + l = x + 4294967296 := ⟨x + 4294967296 - l - y, by omega⟩
        have w5 : IntKind.u32.wrap ((x : Int) - (l : Int) - (y : Int)) = (r : Int) := wrap_neg (by omega) hneg (by omega)
        obtain ⟨s1, s2, s3, s4, s5⟩ := step y r 1 ly (by omega) (Nat.le_refl _) (fun d hd => by rw [hy] at hd; injection hd with hd; exact hd.symm) (fun h => by omega) (by omega)
        simp only [_impl_nat__sub_b0, g0, g1, g5, g6, g13, g14, hin, hlt, hneg, e1, e2, e3, e4, w1, w2, w3, w4, w5, wi, VX, Nat.reduceEqDiff, Nat.reduceAdd]
        exact ⟨(i + 1, outs.set i r, 1), by simp only; omega, s1, rfl, s2, s3, s4, s5, by (repeat' apply And.intro) <;> first | rfl | trivial⟩
      · obtain ⟨r, hr⟩ : ∃ r : Nat, r + y + l = x := ⟨x - l - y, by omega⟩
        have w5 : IntKind.u32.wrap ((x : Int) - (l : Int) - (y : Int)) = (r : Int) := by rw [IntKind.wrap_u32]; omega
        obtain ⟨s1, s2, s3, s4, s5⟩ := step y r 0 ly (by omega) (by omega) (fun d hd => by rw [hy] at hd; injection hd with hd; exact hd.symm) (fun h => by omega) (by omega)
        simp only [_impl_nat__sub_b0, g0, g1, g5, g6, g13, g14, hin, hlt, hneg, e1, e2, e3, e4, w1, w2, w3, w4, w5, wi, VX, Nat.reduceEqDiff, Nat.reduceAdd]
        exact ⟨(i + 1, outs.set i r, 0), by simp only; omega, s1, rfl, s2, s3, s4, s5, by (repeat' apply And.intro) <;> first | rfl | trivial⟩
    · by_cases hneg : (x : Int) - (l : Int) < 0
      · obtain ⟨r, hr⟩ : ∃ r : Nat, r + l = x + 4294967296 := ⟨x + 4294967296 - l, by omega⟩
        have w5 : IntKind.u32.wrap ((x : Int) - (l : Int)) = (r : Int) := wrap_neg (by omega) hneg (by omega)
        obtain ⟨s1, s2, s3, s4, s5⟩ := step 0 r 1 (by decide) (by omega) (Nat.le_refl _) (fun d hd => by have := (List.getElem?_eq_some_iff.1 hd).1; omega) (fun _ => rfl) (by omega)
        simp only [_impl_nat__sub_b0, g0, g1, g5, g6, g13, g14, hin, hlt, hneg, e1, e3, e4, w1, w2, w5, wi, VX, Nat.reduceEqDiff, Nat.reduceAdd]
        exact ⟨(i + 1, outs.set i r, 1), by simp only; omega, s1, rfl, s2, s3, s4, s5, by (repeat' apply And.intro) <;> first | rfl | trivial⟩
      · obtain ⟨r, hr⟩ : ∃ r : Nat, r + l = x := ⟨x - l, by omega⟩
        have w5 : IntKind.u32.wrap ((x : Int) - (l : Int)) = (r : Int) := by rw [IntKind.wrap_u32]; omega
        obtain ⟨s1, s2, s3, s4, s5⟩ := step 0 r 0 (by decide) (by omega) (by omega) (fun d hd => by have := (List.getElem?_eq_some_iff.1 hd).1; omega) (fun _ => rfl) (by omega)
        simp only [_impl_nat__sub_b0, g0, g1, g5, g6, g13, g14, hin, hlt, hneg, e1, e3, e4, w1, w2, w5, wi, VX, Nat.reduceEqDiff, Nat.reduceAdd]
        exact ⟨(i + 1, outs.set i r, 0), by simp only; omega, s1, rfl, s2, s3, s4, s5, by (repeat' apply And.intro) <;> first | rfl | trivial⟩
  · have hie : i = xs.length := by omega
    subst hie
    rw [List.take_length, List.take_of_length_le (l := ys) hle, List.take_of_length_le (l := outs) (by omega), va, vb] at hv
    have hlo := val_lt hod
    rw [hol] at hlo
    have hval : val 4294967296 outs = a - b := by
      rcases Nat.lt_or_ge l 1 with h | h
      · have : l = 0 := by omega
        subst this
        rw [Nat.mul_zero] at hv
        omega
      · have : l = 1 := by omega
        subst this
        rw [Nat.mul_one] at hv
        omega
    simp only [_impl_nat__sub_b0, g0, g1, g5, g6, g13, g14, hin, VX, Nat.reduceEqDiff, Nat.reduceAdd]
    refine trim_call (m := a - b) row_get (by omega) (Nat.le_refl _) (by omega) (fun d hd => hod d (List.mem_of_mem_take hd)) (by rw [List.take_of_length_le (by omega)]; exact hval) fun k hk he => ?_
    simp only [VX, Nat.reduceEqDiff, Nat.reduceAdd]
    exact fz_nat row_get (by omega) hk he
theorem mul_step {P Q A B Y x c r q o y W : Nat} (hvv : A + P * Q * c = B + P * (x * Y)) (h1 : r + W * q = c + (x * y + o)) : A + P * Q * r + P * Q * W * q = B + P * Q * o + P * (x * (Y + Q * y)) := by
  have h2 : P * Q * (r + W * q) = P * Q * (c + (x * y + o)) := by rw [h1]
  grind
theorem impl_nat_mul_v (a b : Nat) (ha : (digs 4294967296 a).length ≤ 17592186044416) (hb : (digs 4294967296 b).length ≤ 17592186044416) : TC 110 [natV a, natV b] (natV (a * b)) := by
  refine TC.walk ⟨true, false⟩ _impl_nat__mul_t rfl (Nat.le_of_ble_eq_true rfl) (by simp [pureL, natV_pure]) (natV_res _) ?_
  have va := val_digs (b := 4294967296) (by decide) a
  have vb := val_digs (b := 4294967296) (by decide) b
  have la := digs_lt (b := 4294967296) (by decide) a
  have lb := digs_lt (b := 4294967296) (by decide) b
  unfold natV
  generalize digs 4294967296 a = xs at *
  generalize digs 4294967296 b = ys at *
  have w0 : IntKind.i64.wrap ((xs.length : Int) + (ys.length : Int)) = ((xs.length + ys.length : Nat) : Int) := wrapN _ (by omega) (by omega)
  simp only [_impl_nat__mul, _impl_nat__mul_c, w0, mk_row (xs.length + ys.length) (by omega), VX, Nat.reduceEqDiff, Nat.reduceAdd]
  generalize hN : xs.length + ys.length = N at *
  refine VW_loop (fun (s : Nat × List Nat) ρ H => s.1 ≤ xs.length ∧ H = [.row 0 (s.2.map uV) 1 true] ∧ s.2.length = N ∧ (∀ d ∈ s.2, d < 4294967296) ∧ val 4294967296 (s.2.take (s.1 + ys.length)) = val 4294967296 (xs.take s.1) * b ∧
    ρ 0 = natL xs ∧ ρ 1 = natL ys ∧ ρ 5 = .ref 0 0 0 N N ∧ ρ 17 = natL xs ∧ ρ 18 = VI xs.length ∧ ρ 19 = VI s.1) (fun s => xs.length - s.1) (0, List.replicate N 0) ⟨Nat.zero_le _, rfl, by simp, rep_lt (by decide) _, by simp [val, List.take_replicate, val_replicate_zero], rfl, rfl, rfl, rfl, rfl, rfl⟩ ?_
  rintro ⟨i, outs⟩ ρ H ⟨hi, rfl, hol, hod, hv, g0, g1, g5, g17, g18, g19⟩
  simp only at hi hol hod hv g19
  by_cases hin : (i : Int) < (xs.length : Int)
  · obtain ⟨x, hx⟩ : ∃ x, xs[i]? = some x := ⟨_, List.getElem?_eq_getElem (by omega)⟩
    have lx := la x (List.mem_of_getElem? hx)
    have e1 := viaddr_map (f := uV) (t := .op) (H := [.row 0 (outs.map uV) 1 true]) (size := 1) (k := .i64) hx rfl
    simp only [_impl_nat__mul_b1, g0, g1, g5, g17, g18, g19, hin, e1, VX, Nat.reduceEqDiff, Nat.reduceAdd]
    refine VW_loop (fun (s : Nat × List Nat × Nat) ρ H => s.1 ≤ ys.length ∧ H = [.row 0 (s.2.1.map uV) 1 true] ∧ s.2.1.length = N ∧ (∀ d ∈ s.2.1, d < 4294967296) ∧ s.2.2 < 4294967296 ∧
      val 4294967296 (s.2.1.take (i + s.1)) + 4294967296 ^ (i + s.1) * s.2.2 = val 4294967296 (outs.take (i + s.1)) + 4294967296 ^ i * (x * val 4294967296 (ys.take s.1)) ∧ (∀ j, i + s.1 ≤ j → s.2.1[j]? = outs[j]?) ∧
      ρ 0 = natL xs ∧ ρ 1 = natL ys ∧ ρ 5 = .ref 0 0 0 N N ∧ ρ 6 = VI i ∧ ρ 7 = uV x ∧ ρ 8 = VK .u64 s.2.2 ∧ ρ 17 = natL xs ∧ ρ 18 = VI xs.length ∧ ρ 19 = VI i ∧ ρ 24 = natL ys ∧ ρ 25 = VI ys.length ∧ ρ 26 = VI s.1) (fun s => ys.length - s.1) (0, outs, 0) ⟨Nat.zero_le _, rfl, hol, hod, by simp, by simp [val], fun _ _ => rfl, by (repeat' apply And.intro) <;> first | rfl | trivial⟩ ?_
    rintro ⟨k, os, c⟩ ρ2 H ⟨hk, rfl, hsl, hsd, hc, hvv, hag, k0, k1, k5, k6, k7, k8, k17, k18, k19, k24, k25, k26⟩
    simp only at hk hsl hsd hc hvv hag k8 k26
    have wi : IntKind.i64.wrap ((i : Int) + 1) = ((i + 1 : Nat) : Int) := wrapN (i + 1) (by omega) (by omega)
    by_cases hkn : (k : Int) < (ys.length : Int)
    · obtain ⟨y, hy⟩ : ∃ y, ys[k]? = some y := ⟨_, List.getElem?_eq_getElem (by omega)⟩
      have ly := lb y (List.mem_of_getElem? hy)
      obtain ⟨o, ho⟩ : ∃ o, os[i + k]? = some o := ⟨_, List.getElem?_eq_getElem (by omega)⟩
      have lo := hsd o (List.mem_of_getElem? ho)
      have ho' : outs[i + k]? = some o := by rw [← hag (i + k) (Nat.le_refl _)]; exact ho
      have f1 := viaddr_map (f := uV) (t := .op) (H := [.row 0 (os.map uV) 1 true]) (size := 1) (k := .i64) hy rfl
      have w1 : IntKind.i64.wrap ((i : Int) + (k : Int)) = ((i + k : Nat) : Int) := wrapN _ (by omega) (by omega)
      have f2 : viaddr 1 (.ref 0 0 0 N N) (VI ((i + k : Nat) : Int)) [.row 0 (os.map uV) 1 true] = some (.ptr 0 0 (i + k) 0) := by rw [viaddr_row row_get (by omega), Nat.zero_add]
      have f3 : vload false 1 (.ptr 0 0 (i + k) 0) [.row 0 (os.map uV) 1 true] = some (uV o) := vload_nat row_get ho
      have f4 : ∀ s : Nat, vstore 0 1 (.ptr 0 0 (i + k) 0) (uV s) [.row 0 (os.map uV) 1 true] = some [.row 0 ((os.set (i + k) s).map uV) 1 true] := fun s => st_row (by omega)
      have hxy : x * y ≤ 4294967295 * 4294967295 := Nat.mul_le_mul (by omega) (by omega)
      have w2 : IntKind.u64.wrap (x : Int) = (x : Int) := wrapU _ (by omega)
      have w3 : IntKind.u64.wrap (y : Int) = (y : Int) := wrapU _ (by omega)
      have w4 : IntKind.u64.wrap (o : Int) = (o : Int) := wrapU _ (by omega)
      have w5 : IntKind.u64.wrap ((x : Int) * (y : Int)) = ((x * y : Nat) : Int) := by rw [← Int.natCast_mul]; exact wrapU _ (by omega)
      have w6 : IntKind.u64.wrap (((x * y : Nat) : Int) + (o : Int)) = ((x * y + o : Nat) : Int) := by rw [← Int.natCast_add]; exact wrapU _ (by omega)
      have w7 : IntKind.u64.wrap ((c : Int) + ((x * y + o : Nat) : Int)) = ((c + (x * y + o) : Nat) : Int) := by rw [← Int.natCast_add]; exact wrapU _ (by omega)
      have wk : IntKind.i64.wrap ((k : Int) + 1) = ((k + 1 : Nat) : Int) := wrapN (k + 1) (by omega) (by omega)
      simp only [_impl_nat__mul_b0, k0, k1, k5, k6, k7, k8, k17, k18, k19, k24, k25, k26, hkn, f1, f2, f3, f4, w1, w2, w3, w4, w5, w6, w7, wk, wrap32, shr_u64, VX, Nat.reduceEqDiff, Nat.reduceAdd]
      have hq : (c + (x * y + o)) / 4294967296 < 4294967296 := Nat.div_lt_of_lt_mul (by omega)
      refine ⟨(k + 1, os.set (i + k) ((c + (x * y + o)) % 4294967296), (c + (x * y + o)) / 4294967296), by simp only; omega, by omega, rfl, by rw [List.length_set]; exact hsl, set_lt hsd (Nat.mod_lt _ (by decide)), hq, ?_, fun j hj => ?_, by (repeat' apply And.intro) <;> first | rfl | trivial⟩
      · have h1 := Nat.mod_add_div (c + (x * y + o)) 4294967296
        rw [← Nat.add_assoc, val_set_take (by omega), val_take_succ ho', val_take_succ hy, Nat.pow_succ]
        rw [Nat.pow_add] at hvv ⊢
        exact mul_step hvv h1
      · rw [List.getElem?_set_ne (by omega)]
        exact hag j (by omega)
    · have hke : k = ys.length := by omega
      subst hke
      rw [List.take_length, vb, hv] at hvv
      have w1 : IntKind.i64.wrap ((i : Int) + (ys.length : Int)) = ((i + ys.length : Nat) : Int) := wrapN _ (by omega) (by omega)
      have f2 : viaddr 1 (.ref 0 0 0 N N) (VI ((i + ys.length : Nat) : Int)) [.row 0 (os.map uV) 1 true] = some (.ptr 0 0 (i + ys.length) 0) := by rw [viaddr_row row_get (by omega), Nat.zero_add]
      have f4 : ∀ s : Nat, vstore 0 1 (.ptr 0 0 (i + ys.length) 0) (uV s) [.row 0 (os.map uV) 1 true] = some [.row 0 ((os.set (i + ys.length) s).map uV) 1 true] := fun s => st_row (by omega)
      simp only [_impl_nat__mul_b0, k0, k1, k5, k6, k7, k8, k17, k18, k19, k24, k25, k26, hkn, f2, f4, w1, wi, wrap32, VX, Nat.reduceEqDiff, Nat.reduceAdd]
      refine ⟨(i + 1, os.set (i + ys.length) (c % 4294967296)), by simp only; omega, by omega, rfl, by rw [List.length_set]; exact hsl, set_lt hsd (Nat.mod_lt _ (by decide)), ?_, by (repeat' apply And.intro) <;> first | rfl | trivial⟩
      rw [show i + 1 + ys.length = i + ys.length + 1 by omega, val_set_take (by omega), Nat.mod_eq_of_lt hc, hvv, val_take_succ hx, Nat.add_mul, Nat.mul_assoc]
  · have hie : i = xs.length := by omega
    subst hie
    rw [hN, List.take_length, va, List.take_of_length_le (by omega)] at hv
    simp only [_impl_nat__mul_b1, g0, g1, g5, g17, g18, g19, hin, VX, Nat.reduceEqDiff, Nat.reduceAdd]
    refine trim_call (m := a * b) row_get (by omega) (Nat.le_refl _) (by omega) (fun d hd => hod d (List.mem_of_mem_take hd)) (by rw [List.take_of_length_le (by omega)]; exact hv) fun k hk he => ?_
    simp only [VX, Nat.reduceEqDiff, Nat.reduceAdd]
    exact fz_nat row_get (by omega) hk he
end Go.PM
/- The program's numbers of at least 0: division by one word, bits further up. -/
namespace Go.PM
theorem set_drop {xs : List Nat} {i d : Nat} (h : i < xs.length) : (xs.set i d).drop i = d :: xs.drop (i + 1) := by
  rw [List.drop_eq_getElem_cons (by rw [List.length_set]; exact h), List.getElem_set_self, set_drop_tail h]
theorem mk_rowD (n k : Nat) (hn : n ≤ 70368744177664) {H : VHeap} : vmake [.int .u32 0] 4 (VI (n : Int)) (VI (n : Int)) H = some (.ref H.length 0 0 n n, H ++ [.row 0 ((List.replicate n 0).map uV) 1 true]) := vmake_map (f := uV) (x := 0) rfl (by omega) (by omega)
theorem div_step {A q t r x d W : Nat} (h1 : t + d * q = r * W + x) : (q + W * A) * d + t = x + W * (A * d + r) := by grind
theorem shift_step {A B P S W c m x q : Nat} (hv : A + P * c = B * S) (h1 : m * S + W * q = x * S) : A + P * (c + m * S) + P * W * q = (B + P * x) * S := by
  have h2 : P * (m * S + W * q) = P * (x * S) := by rw [h1]
  grind
theorem impl_nat_divSmall_v (a d : Nat) (hd0 : 0 < d) (hdW : d < 4294967296) (ha : (digs 4294967296 a).length ≤ 17592186044416) : TC 158 [natV a, uV d] (.tup [natV (a / d), uV (a % d)]) := by
  refine TC.walk ⟨true, false⟩ _impl_nat__divSmall_t rfl (Nat.le_of_ble_eq_true rfl) (by simp [pureL, natV_pure, pureV, isSc]) (by simp [resV, resL, natV_res, isSc]) ?_
  have va := val_digs (b := 4294967296) (by decide) a
  have la := digs_lt (b := 4294967296) (by decide) a
  unfold natV
  generalize digs 4294967296 a = xs at *
  have w0 : IntKind.i64.wrap ((xs.length : Int) - 1) = (xs.length : Int) - 1 := wrap64 (by omega) (by omega)
  have wd : IntKind.u64.wrap (d : Int) = (d : Int) := wrapU _ (by omega)
  simp only [_impl_nat__divSmall, _impl_nat__divSmall_c, w0, mk_row xs.length (by omega), VX, Nat.reduceEqDiff, Nat.reduceAdd]
  refine VW_loop (fun (s : Nat × List Nat × Nat) ρ H => s.1 ≤ xs.length ∧ H = [.row 0 (s.2.1.map uV) 1 true] ∧ s.2.1.length = xs.length ∧ (∀ d ∈ s.2.1, d < 4294967296) ∧ s.2.2 < d ∧ val 4294967296 (s.2.1.drop s.1) * d + s.2.2 = val 4294967296 (xs.drop s.1) ∧
    ρ 0 = natL xs ∧ ρ 1 = uV d ∧ ρ 6 = .ref 0 0 0 xs.length xs.length ∧ ρ 7 = VK .u64 s.2.2 ∧ ρ 8 = VI ((s.1 : Int) - 1)) (fun s => s.1) (xs.length, List.replicate xs.length 0, 0) ⟨Nat.le_refl _, rfl, by simp, rep_lt (by decide) _, hd0, by simp [val, List.drop_replicate], rfl, rfl, rfl, rfl, rfl⟩ ?_
  rintro ⟨j, outs, r⟩ ρ H ⟨hj, rfl, hol, hod, hr, hv, g0, g1, g6, g7, g8⟩
  simp only at hj hol hod hr hv g7 g8
  by_cases hz : (0 : Int) ≤ (j : Int) - 1
  · obtain ⟨i, rfl⟩ : ∃ i, j = i + 1 := ⟨j - 1, by omega⟩
    obtain ⟨x, hx⟩ : ∃ x, xs[i]? = some x := ⟨_, List.getElem?_eq_getElem (by omega)⟩
    have lx := la x (List.mem_of_getElem? hx)
    have hji : ((i + 1 : Nat) : Int) - 1 = (i : Int) := by omega
    rw [hji] at g8 hz
    have e1 := viaddr_map (f := uV) (t := .op) (H := [.row 0 (outs.map uV) 1 true]) (size := 1) (k := .i64) hx rfl
    have e3 : viaddr 1 (.ref 0 0 0 xs.length xs.length) (VI i) [.row 0 (outs.map uV) 1 true] = some (.ptr 0 0 i 0) := by rw [viaddr_row row_get (by omega), Nat.zero_add]
    have e4 : ∀ s : Nat, vstore 0 1 (.ptr 0 0 i 0) (uV s) [.row 0 (outs.map uV) 1 true] = some [.row 0 ((outs.set i s).map uV) 1 true] := fun s => st_row (by omega)
    have w2 : IntKind.i64.wrap ((i : Int) - 1) = (i : Int) - 1 := wrap64 (by omega) (by omega)
    have w3 : IntKind.u64.wrap (x : Int) = (x : Int) := wrapU _ (by omega)
    have w4 : IntKind.u64.wrap (((r * 4294967296 : Nat) : Int) + (x : Int)) = ((r * 4294967296 + x : Nat) : Int) := by rw [← Int.natCast_add]; exact wrapU _ (by omega)
    have w5 := shl_u64 r .u64 (by omega)
    have q1 := quo_u64 (r * 4294967296 + x) d (by omega) hd0
    have q2 := rem_u64 (r * 4294967296 + x) d hd0
    have hq : (r * 4294967296 + x) / d < 4294967296 := by
      rw [Nat.div_lt_iff_lt_mul hd0]
      have : (r + 1) * 4294967296 ≤ d * 4294967296 := Nat.mul_le_mul_right _ hr
      rw [Nat.mul_comm 4294967296 d]
      omega
    simp only [_impl_nat__divSmall_b0, g0, g1, g6, g7, g8, hz, e1, e3, e4, w2, w3, w4, w5, wd, q1, q2, wrap32, Nat.mod_eq_of_lt hq, VX, Nat.reduceEqDiff, Nat.reduceAdd]
    refine ⟨(i, outs.set i ((r * 4294967296 + x) / d), (r * 4294967296 + x) % d), by simp only; omega, by omega, rfl, by rw [List.length_set]; exact hol, set_lt hod hq, Nat.mod_lt _ hd0, ?_, by (repeat' apply And.intro) <;> first | rfl | trivial⟩
    have h1 := Nat.mod_add_div (r * 4294967296 + x) d
    rw [set_drop (by omega), val_cons, val_drop hx, ← hv]
    exact div_step h1
  · have hj0 : j = 0 := by omega
    subst hj0
    rw [List.drop_zero, List.drop_zero, va] at hv
    have h1 : a / d = val 4294967296 outs := by
      rw [← hv, Nat.mul_comm, Nat.mul_add_div hd0, Nat.div_eq_of_lt hr, Nat.add_zero]
    have h2 : a % d = r := by
      rw [← hv, Nat.mul_comm, Nat.mul_add_mod, Nat.mod_eq_of_lt hr]
    simp only [_impl_nat__divSmall_b0, g0, g1, g6, g7, g8, hz, VX, Nat.reduceEqDiff, Nat.reduceAdd]
    refine trim_call (m := a / d) row_get (by omega) (Nat.le_refl _) (by omega) (fun d hd => hod d (List.mem_of_mem_take hd)) (by rw [List.take_of_length_le (by omega)]; exact h1.symm) fun k hk he => ?_
    simp only [wrap32, Nat.mod_eq_of_lt (show r < 4294967296 by omega), g7, VX, Nat.reduceEqDiff, Nat.reduceAdd]
    rw [h2]
    exact fz_tup2 (d := 6) (fz_natD (d := 5) row_get (by omega) hk he) (fz_pure rfl)
theorem vrow_own {n g e : Nat} {es : List VV} {w : Bool} : vrow (List.replicate n VBlk.dead ++ [.row g es e w]) n g = some (es, e, w) := by rw [vrow_D0]; exact vrow_zero
theorem ownN {n : Nat} (xs : List Nat) : ownL n (xs.map uV) = true := by
  rw [ownL_mem]
  intro x hx
  obtain ⟨y, _, rfl⟩ := List.mem_map.1 hx
  rfl
theorem impl_nat_shifted_v (a s : Nat) (hs : s ≤ 31) (ha : (digs 4294967296 a).length ≤ 17592186044416) : FC 160 [natV a, VI s] fun n r L => ∃ outs : List Nat, r = .ref n 0 0 ((digs 4294967296 a).length + 1) ((digs 4294967296 a).length + 1) ∧ L = [.row 0 (outs.map uV) 1 true] ∧ outs.length = (digs 4294967296 a).length + 1 ∧ (∀ d ∈ outs, d < 4294967296) ∧ val 4294967296 outs = a * 2 ^ s ∧ (∀ d, outs[(digs 4294967296 a).length]? = some d → d < 2 ^ s) := by
  refine FC.walk ⟨true, false⟩ _impl_nat__shifted_t (Nat.le_of_ble_eq_true rfl) fun n => ?_
  have va := val_digs (b := 4294967296) (by decide) a
  have la := digs_lt (b := 4294967296) (by decide) a
  unfold natV
  generalize digs 4294967296 a = xs at *
  have hS : 0 < 2 ^ s := Nat.pow_pos (by decide)
  have hSW : 2 ^ s * 2 ^ (32 - s) = 4294967296 := by rw [← Nat.pow_add, show s + (32 - s) = 32 by omega]
  have w0 : IntKind.i64.wrap ((xs.length : Int) + 1) = ((xs.length + 1 : Nat) : Int) := wrapN _ (by omega) (by omega)
  simp only [_impl_nat__shifted, _impl_nat__shifted_c, w0, mk_rowD (xs.length + 1) n (by omega), List.length_replicate, VX, Nat.reduceEqDiff, Nat.reduceAdd]
  refine VW_loop (fun (t : Nat × List Nat × Nat) ρ H => t.1 ≤ xs.length ∧ H = List.replicate n .dead ++ [.row 0 (t.2.1.map uV) 1 true] ∧ t.2.1.length = xs.length + 1 ∧ (∀ d ∈ t.2.1, d < 4294967296) ∧ t.2.1[t.1]? = some t.2.2 ∧ t.2.2 < 2 ^ s ∧ val 4294967296 (t.2.1.take t.1) + 4294967296 ^ t.1 * t.2.2 = val 4294967296 (xs.take t.1) * 2 ^ s ∧
    ρ 1 = VI s ∧ ρ 5 = .ref n 0 0 (xs.length + 1) (xs.length + 1) ∧ ρ 13 = natL xs ∧ ρ 14 = VI xs.length ∧ ρ 15 = VI t.1) (fun t => xs.length - t.1) (0, List.replicate (xs.length + 1) 0, 0) ⟨Nat.zero_le _, rfl, by simp, rep_lt (by decide) _, by simp, hS, by simp [val], rfl, rfl, rfl, rfl, rfl⟩ ?_
  rintro ⟨i, outs, c⟩ ρ H ⟨hi, rfl, hol, hod, hoc, hc, hv, g1, g5, g13, g14, g15⟩
  simp only at hi hol hod hoc hc hv g15
  by_cases hin : (i : Int) < (xs.length : Int)
  · obtain ⟨x, hx⟩ : ∃ x, xs[i]? = some x := ⟨_, List.getElem?_eq_getElem (by omega)⟩
    have lx := la x (List.mem_of_getElem? hx)
    have e1 := viaddr_map (f := uV) (t := .op) (H := List.replicate n .dead ++ [.row 0 (outs.map uV) 1 true]) (size := 1) (k := .i64) hx rfl
    have wx : IntKind.u64.wrap (x : Int) = (x : Int) := wrapU _ (by omega)
    have wi : IntKind.i64.wrap ((i : Int) + 1) = ((i + 1 : Nat) : Int) := wrapN (i + 1) (by omega) (by omega)
    have w5 := shl_by x s lx hs
    obtain ⟨m, hm⟩ : ∃ m, (x * 2 ^ s) % 4294967296 = m * 2 ^ s := by
      refine ⟨x % 2 ^ (32 - s), ?_⟩
      rw [← hSW, Nat.mul_comm x, Nat.mul_mod_mul_left, Nat.mul_comm]
    have hhi : (x * 2 ^ s) / 4294967296 < 2 ^ s := by
      rw [Nat.div_lt_iff_lt_mul (by decide), Nat.mul_comm (2 ^ s)]
      exact Nat.mul_lt_mul_of_pos_right lx hS
    have hlt : (x * 2 ^ s) % 4294967296 < 4294967296 := Nat.mod_lt _ (by decide)
    have hmm : m < 2 ^ (32 - s) := by
      have : m * 2 ^ s < 2 ^ (32 - s) * 2 ^ s := by rw [← hm, Nat.mul_comm (2 ^ (32 - s)) (2 ^ s), hSW]; exact hlt
      exact Nat.lt_of_mul_lt_mul_right this
    have hsum : m * 2 ^ s + c < 4294967296 := by
      have : (m + 1) * 2 ^ s ≤ 2 ^ (32 - s) * 2 ^ s := Nat.mul_le_mul_right _ hmm
      rw [Nat.mul_comm (2 ^ (32 - s)), hSW, Nat.add_mul] at this
      omega
    have or1 := or_u32 c m s hc hsum
    have e3 : viaddr 1 (.ref n 0 0 (xs.length + 1) (xs.length + 1)) (VI i) (List.replicate n .dead ++ [.row 0 (outs.map uV) 1 true]) = some (.ptr n 0 i 0) := by rw [viaddr_row vrow_own (by omega), Nat.zero_add]
    have e4 : vload false 1 (.ptr n 0 i 0) (List.replicate n .dead ++ [.row 0 (outs.map uV) 1 true]) = some (uV c) := vload_nat vrow_own hoc
    have e5 : ∀ (os : List Nat) (j t : Nat), j < os.length → vstore n 1 (.ptr n 0 j 0) (uV t) (List.replicate n .dead ++ [.row 0 (os.map uV) 1 true]) = some (List.replicate n .dead ++ [.row 0 ((os.set j t).map uV) 1 true]) := fun os j t hj => by
      rw [vstore_map (f := uV) (e := 1) vrow_own hj (Nat.le_refl _) rfl rfl, set_D0]
      rfl
    have e6 : viaddr 1 (.ref n 0 0 (xs.length + 1) (xs.length + 1)) (VI ((i + 1 : Nat) : Int)) (List.replicate n .dead ++ [.row 0 ((outs.set i (c + m * 2 ^ s)).map uV) 1 true]) = some (.ptr n 0 (i + 1) 0) := by rw [viaddr_row vrow_own (by omega), Nat.zero_add]
    have e7 := e5 outs i (c + m * 2 ^ s) (by omega)
    have e8 := e5 (outs.set i (c + m * 2 ^ s)) (i + 1) ((x * 2 ^ s) / 4294967296) (by rw [List.length_set]; omega)
    have hq : (x * 2 ^ s) / 4294967296 % 4294967296 = (x * 2 ^ s) / 4294967296 := Nat.mod_eq_of_lt (by
      have : 2 ^ s ≤ 2 ^ 31 := Nat.pow_le_pow_right (by decide) hs
      omega)
    simp only [_impl_nat__shifted_b0, g1, g5, g13, g14, g15, hin, e1, e3, e4, e6, e7, e8, wx, wi, w5, wrap32, shr_u64, hm, or1, hq, VX, Nat.reduceEqDiff, Nat.reduceAdd]
    refine ⟨(i + 1, (outs.set i (c + m * 2 ^ s)).set (i + 1) ((x * 2 ^ s) / 4294967296), (x * 2 ^ s) / 4294967296), by simp only; omega, by omega, rfl, by rw [List.length_set, List.length_set]; exact hol,
      set_lt (set_lt hod (by omega)) (by
        have : 2 ^ s ≤ 2 ^ 31 := Nat.pow_le_pow_right (by decide) hs
        omega), by rw [List.getElem?_set_self (by rw [List.length_set]; omega)], hhi, ?_, by (repeat' apply And.intro) <;> first | rfl | trivial⟩
    rw [List.take_set_of_le (Nat.le_refl _), val_set_take (by omega), val_take_succ hx, Nat.pow_succ]
    have h1 := Nat.mod_add_div (x * 2 ^ s) 4294967296
    rw [hm] at h1
    exact shift_step hv h1
  · have hie : i = xs.length := by omega
    subst hie
    rw [List.take_length, va] at hv
    have hval : val 4294967296 outs = a * 2 ^ s := by
      have h1 := val_take_succ (b := 4294967296) hoc
      rw [List.take_of_length_le (by omega)] at h1
      rw [h1]
      exact hv
    simp only [_impl_nat__shifted_b0, g1, g5, g13, g14, g15, hin, VX, Nat.reduceEqDiff, Nat.reduceAdd]
    exact ⟨_, rfl, by simp [ownV], by simp [rowsOwn, ownN outs], outs, rfl, hol, hod, hval, fun d hd => by rw [hoc] at hd; injection hd with hd; omega⟩
end Go.PM
/- The program's numbers of at least 0: taking a multiple away from a row of digits. -/
namespace Go.PM
theorem vrowN_set_ne {H : VHeap} {b b' g : Nat} {x : VBlk} (h : b ≠ b') : vrow (H.set b x) b' g = vrow H b' g := by
  unfold vrow
  rw [List.getElem?_set_ne h]
theorem vrow_set_self {H : VHeap} {b g e : Nat} {es es' : List VV} {w w' : Bool} (h : vrow H b g = some (es, e, w)) : vrow (H.set b (.row g es' e w')) b g = some (es', e, w') := by
  have hlt : b < H.length := by
    unfold vrow at h
    split at h
    · rename_i hb
      exact (List.getElem?_eq_some_iff.1 hb).1
    · cases h
  unfold vrow
  rw [List.getElem?_set_self hlt]
  simp
theorem set_set_row {H : VHeap} {b : Nat} {x y : VBlk} : (H.set b x).set b y = H.set b y := by rw [List.set_set]
theorem set_same_row {H : VHeap} {b g e : Nat} {es : List VV} {w : Bool} (h : vrow H b g = some (es, e, w)) : H.set b (.row g es e w) = H := by
  apply List.ext_getElem?
  intro i
  by_cases hi : b = i
  · subst hi
    unfold vrow at h
    split at h
    · rename_i hb
      split at h
      · rename_i hg
        cases h
        rw [List.getElem?_set_self (List.getElem?_eq_some_iff.1 hb).1, hb, hg]
      · cases h
    · cases h
  · rw [List.getElem?_set_ne hi]
theorem st_seg {H : VHeap} {b g o i lo d : Nat} {pre seg post : List Nat} (hr : vrow H b g = some ((pre ++ seg ++ post).map uV, 1, true)) (ho : pre.length = o) (hi : i < seg.length) (hlo : lo ≤ b) :
    vstore lo 1 (.ptr b g (o + i) 0) (uV d) H = some (H.set b (.row g ((pre ++ seg.set i d ++ post).map uV) 1 true)) := by
  rw [vstore_map (f := uV) (e := 1) hr (by simp only [List.length_append]; omega) hlo rfl rfl, set_mid ho hi]
theorem takeAway_v {H : VHeap} {lo b g o L c b2 g2 n2 c2 t : Nat} {pre seg post vs rows2 : List Nat} {w2 : Bool} (hr : vrow H b g = some ((pre ++ seg ++ post).map uV, 1, true)) (hr2 : vrow H b2 g2 = some (rows2.map uV, 1, w2)) (hb : b ≠ b2) (hlo : lo ≤ b)
    (ho : pre.length = o) (hL : seg.length = L) (hcapL : L ≤ 70368744177664) (hvs : rows2.take n2 = vs) (hn2 : n2 ≤ rows2.length) (hle : n2 ≤ L) (hseg : ∀ d ∈ seg, d < 4294967296) (hvd : ∀ d ∈ vs, d < 4294967296) (ht : t < 4294967296) (hfit : t * val 4294967296 vs ≤ val 4294967296 seg + val 4294967296 vs) :
    VRaw 161 [.ref b g o L c, .ref b2 g2 0 n2 c2, VK .u64 t] lo H fun r H' => ∃ seg' : List Nat, H' = H.set b (.row g ((pre ++ seg' ++ post).map uV) 1 true) ∧ seg'.length = L ∧ (∀ d ∈ seg', d < 4294967296) ∧
      ((r = VB false ∧ val 4294967296 seg' + t * val 4294967296 vs = val 4294967296 seg) ∨ (r = VB true ∧ val 4294967296 seg < t * val 4294967296 vs ∧ val 4294967296 seg' + t * val 4294967296 vs = val 4294967296 seg + val 4294967296 vs)) := by
  refine VRaw.walk ⟨true, false⟩ impl_takeAway_t (Nat.le_of_ble_eq_true rfl) ?_
  have hvl : vs.length = n2 := by rw [← hvs, List.length_take]; omega
  have hget : ∀ i, i < n2 → rows2[i]? = vs[i]? := fun i hi => by rw [← hvs, List.getElem?_take_of_lt hi]
  have hsl := val_lt hseg
  have hvv := val_lt hvd
  rw [hL] at hsl
  rw [hvl] at hvv
  have hVL : val 4294967296 vs ≤ 4294967296 ^ L := Nat.le_trans (Nat.le_of_lt hvv) (Nat.pow_le_pow_right (by decide) hle)
  have e0 : ∀ {K : VHeap} {es : List VV}, vrow K b g = some (es, 1, true) → vlen (.ref b g o L c) K = some (VI L) := fun h => vlen_ref h
  have e00 : ∀ {K : VHeap}, vrow K b2 g2 = some (rows2.map uV, 1, w2) → vlen (.ref b2 g2 0 n2 c2) K = some (VI n2) := fun h => vlen_ref h
  have rd : ∀ (s : List Nat), s.length = L → vrow (H.set b (.row g ((pre ++ s ++ post).map uV) 1 true)) b g = some ((pre ++ s ++ post).map uV, 1, true) := fun s _ => vrow_set_self hr
  have rd2 : ∀ (s : List Nat), vrow (H.set b (.row g ((pre ++ s ++ post).map uV) 1 true)) b2 g2 = some (rows2.map uV, 1, w2) := fun s => by rw [vrowN_set_ne hb]; exact hr2
  have wi : ∀ i : Nat, i < L → IntKind.i64.wrap ((i : Int) + 1) = ((i + 1 : Nat) : Int) := fun i hi => wrapN (i + 1) (by omega) (by omega)
  have back : ∀ (ρ : VEnv) (s : List Nat), s.length = L → (∀ d ∈ s, d < 4294967296) → (∀ s2 : List Nat, s2.length = L → (∀ d ∈ s2, d < 4294967296) → ∀ c, val 4294967296 s + val 4294967296 vs = val 4294967296 s2 + 4294967296 ^ L * c → val 4294967296 s2 + t * val 4294967296 vs = val 4294967296 seg + val 4294967296 vs) → val 4294967296 seg < t * val 4294967296 vs → ρ 0 = .ref b g o L c → ρ 1 = .ref b2 g2 0 n2 c2 → ρ 7 = VK .u64 0 → ρ 58 = VI L → ρ 59 = VI 0 →
      VW ⟨true, false⟩ lo (.loop impl_takeAway_b1) (onExit 2 (onNormal (VW ⟨true, false⟩ lo (.seq (.reg [⟨(some 6), (.mv (.const (.bool true))), none, false, []⟩]) .ret) (vretQ [.tmp 6] fun r H' => ∃ seg' : List Nat, H' = H.set b (.row g ((pre ++ seg' ++ post).map uV) 1 true) ∧ seg'.length = L ∧ (∀ d ∈ seg', d < 4294967296) ∧ ((r = VB false ∧ val 4294967296 seg' + t * val 4294967296 vs = val 4294967296 seg) ∨ (r = VB true ∧ val 4294967296 seg < t * val 4294967296 vs ∧ val 4294967296 seg' + t * val 4294967296 vs = val 4294967296 seg + val 4294967296 vs)))) (vretQ [.tmp 6] fun r H' => ∃ seg' : List Nat, H' = H.set b (.row g ((pre ++ seg' ++ post).map uV) 1 true) ∧ seg'.length = L ∧ (∀ d ∈ seg', d < 4294967296) ∧ ((r = VB false ∧ val 4294967296 seg' + t * val 4294967296 vs = val 4294967296 seg) ∨ (r = VB true ∧ val 4294967296 seg < t * val 4294967296 vs ∧ val 4294967296 seg' + t * val 4294967296 vs = val 4294967296 seg + val 4294967296 vs))))) ρ (H.set b (.row g ((pre ++ s ++ post).map uV) 1 true)) := by
    intro ρ s hs hsd hend hlts g0 g1 g7 g58 g59
    refine VW_loop (fun (u : Nat × List Nat × Nat) ρ K => u.1 ≤ L ∧ K = H.set b (.row g ((pre ++ u.2.1 ++ post).map uV) 1 true) ∧ u.2.1.length = L ∧ (∀ d ∈ u.2.1, d < 4294967296) ∧ u.2.2 ≤ 1 ∧ val 4294967296 (s.take u.1) + val 4294967296 (vs.take u.1) = val 4294967296 (u.2.1.take u.1) + 4294967296 ^ u.1 * u.2.2 ∧ (∀ j, u.1 ≤ j → u.2.1[j]? = s[j]?) ∧
      ρ 0 = .ref b g o L c ∧ ρ 1 = .ref b2 g2 0 n2 c2 ∧ ρ 7 = VK .u64 u.2.2 ∧ ρ 58 = VI L ∧ ρ 59 = VI u.1) (fun u => L - u.1) (0, s, 0) ⟨Nat.zero_le _, rfl, hs, hsd, by simp, by simp [val], fun _ _ => rfl, g0, g1, g7, g58, g59⟩ ?_
    rintro ⟨i, outs, cy⟩ ρ2 K ⟨hi, rfl, hol, hod, hc, hv, hag, k0, k1, k7, k58, k59⟩
    simp only at hi hol hod hc hv hag k7 k59
    by_cases hin : (i : Int) < (L : Int)
    · obtain ⟨x, hx⟩ : ∃ x, outs[i]? = some x := ⟨_, List.getElem?_eq_getElem (by omega)⟩
      have lx := hod x (List.mem_of_getElem? hx)
      have hx' : s[i]? = some x := by rw [← hag i (Nat.le_refl _)]; exact hx
      have e1 : viaddr 1 (.ref b g o L c) (VI i) (H.set b (.row g ((pre ++ outs ++ post).map uV) 1 true)) = some (.ptr b g (o + i) 0) := viaddr_row (rd outs hol) (by omega)
      have e2 : vload false 1 (.ptr b g (o + i) 0) (H.set b (.row g ((pre ++ outs ++ post).map uV) 1 true)) = some (uV x) := vload_nat (rd outs hol) (by rw [get_mid ho (by omega)]; exact hx)
      have e3 : ∀ d : Nat, vstore lo 1 (.ptr b g (o + i) 0) (uV d) (H.set b (.row g ((pre ++ outs ++ post).map uV) 1 true)) = some (H.set b (.row g ((pre ++ outs.set i d ++ post).map uV) 1 true)) := fun d => by
        rw [st_seg (rd outs hol) ho (by omega) hlo, set_set_row]
      have e4 := e00 (rd2 outs)
      have w1 : IntKind.u64.wrap (x : Int) = (x : Int) := wrapU _ (by omega)
      have w2 : IntKind.u64.wrap ((cy : Int) + (x : Int)) = ((cy + x : Nat) : Int) := by rw [← Int.natCast_add]; exact wrapU _ (by omega)
      have wii := wi i (by omega)
      have step : ∀ y, y < 4294967296 → (∀ d, vs[i]? = some d → d = y) → (vs.length ≤ i → y = 0) →
          (i + 1 ≤ L ∧ (outs.set i ((cy + x + y) % 4294967296)).length = L ∧ (∀ d ∈ outs.set i ((cy + x + y) % 4294967296), d < 4294967296) ∧ (cy + x + y) / 4294967296 ≤ 1 ∧ val 4294967296 (s.take (i + 1)) + val 4294967296 (vs.take (i + 1)) = val 4294967296 ((outs.set i ((cy + x + y) % 4294967296)).take (i + 1)) + 4294967296 ^ (i + 1) * ((cy + x + y) / 4294967296)) ∧ ∀ j, i + 1 ≤ j → (outs.set i ((cy + x + y) % 4294967296))[j]? = s[j]? := by
        intro y hy h1 h2
        refine ⟨⟨by omega, by rw [List.length_set]; exact hol, set_lt hod (Nat.mod_lt _ (by decide)), by omega, ?_⟩, fun j hj => by rw [List.getElem?_set_ne (by omega)]; exact hag j (by omega)⟩
        have hy' : val 4294967296 (vs.take (i + 1)) = val 4294967296 (vs.take i) + 4294967296 ^ i * y := by
          cases hyi : vs[i]? with
          | some d => rw [val_take_succ hyi, h1 d hyi]
          | none =>
            have hle := List.getElem?_eq_none_iff.1 hyi
            rw [h2 hle, val_take_ge hle, val_take_ge (by omega), Nat.mul_zero, Nat.add_zero]
        rw [val_take_succ hx', hy', val_set_take (by omega), Nat.pow_succ]
        exact carry_step hv rfl (Nat.mod_add_div _ _)
      by_cases hlt : (i : Int) < (n2 : Int)
      · obtain ⟨y, hy⟩ : ∃ y, vs[i]? = some y := ⟨_, List.getElem?_eq_getElem (by omega)⟩
        have ly := hvd y (List.mem_of_getElem? hy)
        have f1 : viaddr 1 (.ref b2 g2 0 n2 c2) (VI i) (H.set b (.row g ((pre ++ outs ++ post).map uV) 1 true)) = some (.ptr b2 g2 i 0) := by rw [viaddr_row (rd2 outs) (by omega), Nat.zero_add]
        have f2 : vload false 1 (.ptr b2 g2 i 0) (H.set b (.row g ((pre ++ outs ++ post).map uV) 1 true)) = some (uV y) := vload_nat (rd2 outs) (by rw [hget i (by omega)]; exact hy)
        have w3 : IntKind.u64.wrap (y : Int) = (y : Int) := wrapU _ (by omega)
        have w4 : IntKind.u64.wrap (((cy + x : Nat) : Int) + (y : Int)) = ((cy + x + y : Nat) : Int) := by rw [← Int.natCast_add]; exact wrapU _ (by omega)
        obtain ⟨⟨s1, s2, s3, s4, s5⟩, s6⟩ := step y ly (fun d hd => by rw [hy] at hd; injection hd with hd; exact hd.symm) (fun h => by omega)
        simp only [impl_takeAway_b1, k0, k1, k7, k58, k59, hin, hlt, e1, e2, e3, e4, f1, f2, w1, w2, w3, w4, wii, wrap32, shr_u64, VX, Nat.reduceEqDiff, Nat.reduceAdd]
        exact ⟨(i + 1, outs.set i ((cy + x + y) % 4294967296), (cy + x + y) / 4294967296), by simp only; omega, s1, rfl, s2, s3, s4, s5, s6, by (repeat' apply And.intro) <;> first | rfl | trivial⟩
      · obtain ⟨⟨s1, s2, s3, s4, s5⟩, s6⟩ := step 0 (by decide) (fun d hd => by have := (List.getElem?_eq_some_iff.1 hd).1; omega) (fun _ => rfl)
        simp only [Nat.add_zero] at s2 s3 s4 s5 s6
        simp only [impl_takeAway_b1, k0, k1, k7, k58, k59, hin, hlt, e1, e2, e3, e4, w1, w2, wii, wrap32, shr_u64, VX, Nat.reduceEqDiff, Nat.reduceAdd]
        exact ⟨(i + 1, outs.set i ((cy + x) % 4294967296), (cy + x) / 4294967296), by simp only; omega, s1, rfl, s2, s3, s4, s5, s6, by (repeat' apply And.intro) <;> first | rfl | trivial⟩
    · have hie : i = L := by omega
      subst hie
      rw [List.take_of_length_le (by omega), List.take_of_length_le (by omega), List.take_of_length_le (by omega)] at hv
      simp only [impl_takeAway_b1, k0, k1, k7, k58, k59, hin, VX, Nat.reduceEqDiff, Nat.reduceAdd]
      exact ⟨outs, rfl, hol, hod, .inr ⟨hlts, hend outs hol hod cy hv⟩⟩
  simp only [impl_takeAway, impl_takeAway_c, e0 hr, VX, Nat.reduceEqDiff, Nat.reduceAdd]
  refine VW_loop (fun (u : Nat × List Nat × Nat × Nat) ρ K => u.1 ≤ L ∧ K = H.set b (.row g ((pre ++ u.2.1 ++ post).map uV) 1 true) ∧ u.2.1.length = L ∧ (∀ d ∈ u.2.1, d < 4294967296) ∧ u.2.2.1 < 4294967296 ∧ u.2.2.2 ≤ 1 ∧ val 4294967296 (seg.take u.1) + 4294967296 ^ u.1 * (u.2.2.1 + u.2.2.2) = val 4294967296 (u.2.1.take u.1) + t * val 4294967296 (vs.take u.1) ∧ (∀ j, u.1 ≤ j → u.2.1[j]? = seg[j]?) ∧
    ρ 0 = .ref b g o L c ∧ ρ 1 = .ref b2 g2 0 n2 c2 ∧ ρ 2 = VK .u64 t ∧ ρ 7 = VK .u64 u.2.2.1 ∧ ρ 8 = VI u.2.2.2 ∧ ρ 13 = VI L ∧ ρ 14 = VI u.1) (fun u => L - u.1) (0, seg, 0, 0) ⟨Nat.zero_le _, (set_same_row hr).symm, hL, hseg, by simp, by simp, by simp [val], fun _ _ => rfl, by (repeat' apply And.intro) <;> first | rfl | trivial⟩ ?_
  rintro ⟨i, outs, cy, l⟩ ρ K ⟨hi, rfl, hol, hod, hc, hl1, hv, hag, k0, k1, k2, k7, k8, k13, k14⟩
  simp only at hi hol hod hc hl1 hv hag k7 k8 k14
  by_cases hin : (i : Int) < (L : Int)
  · obtain ⟨x, hx⟩ : ∃ x, outs[i]? = some x := ⟨_, List.getElem?_eq_getElem (by omega)⟩
    have lx := hod x (List.mem_of_getElem? hx)
    have hx' : seg[i]? = some x := by rw [← hag i (Nat.le_refl _)]; exact hx
    have e1 : viaddr 1 (.ref b g o L c) (VI i) (H.set b (.row g ((pre ++ outs ++ post).map uV) 1 true)) = some (.ptr b g (o + i) 0) := viaddr_row (rd outs hol) (by omega)
    have e2 : vload false 1 (.ptr b g (o + i) 0) (H.set b (.row g ((pre ++ outs ++ post).map uV) 1 true)) = some (uV x) := vload_nat (rd outs hol) (by rw [get_mid ho (by omega)]; exact hx)
    have e3 : ∀ d : Nat, vstore lo 1 (.ptr b g (o + i) 0) (uV d) (H.set b (.row g ((pre ++ outs ++ post).map uV) 1 true)) = some (H.set b (.row g ((pre ++ outs.set i d ++ post).map uV) 1 true)) := fun d => by
      rw [st_seg (rd outs hol) ho (by omega) hlo, set_set_row]
    have e4 := e00 (rd2 outs)
    have wii := wi i (by omega)
    have w1 : IntKind.i64.wrap (x : Int) = (x : Int) := wrapN x rfl (by omega)
    have step : ∀ y c1, y < 4294967296 → c1 = cy + t * y → (∀ d, vs[i]? = some d → d = y) → (vs.length ≤ i → y = 0) →
        c1 / 4294967296 < 4294967296 ∧ IntKind.i64.wrap ((x : Int) - ((c1 % 4294967296 : Nat) : Int) - (l : Int)) = (x : Int) - ((c1 % 4294967296 : Nat) : Int) - (l : Int) ∧ IntKind.i64.wrap ((x : Int) - ((c1 % 4294967296 : Nat) : Int)) = (x : Int) - ((c1 % 4294967296 : Nat) : Int) ∧
        ∃ r l', l' ≤ 1 ∧ ((x : Int) - ((c1 % 4294967296 : Nat) : Int) - (l : Int) < 0 ↔ l' = 1) ∧ IntKind.u32.wrap ((x : Int) - ((c1 % 4294967296 : Nat) : Int) - (l : Int)) = ((r : Nat) : Int) ∧
        (i + 1 ≤ L ∧ (outs.set i r).length = L ∧ (∀ d ∈ outs.set i r, d < 4294967296) ∧ c1 / 4294967296 < 4294967296 ∧ l' ≤ 1 ∧ val 4294967296 (seg.take (i + 1)) + 4294967296 ^ (i + 1) * (c1 / 4294967296 + l') = val 4294967296 ((outs.set i r).take (i + 1)) + t * val 4294967296 (vs.take (i + 1)) ∧ ∀ j, i + 1 ≤ j → (outs.set i r)[j]? = seg[j]?) := by
      intro y c1 hy hc1 h1 h2
      have hty : t * y ≤ 4294967295 * 4294967295 := Nat.mul_le_mul (by omega) (by omega)
      have hm := Nat.mod_lt c1 (show 0 < 4294967296 by decide)
      have hdv := Nat.mod_add_div c1 4294967296
      have hq : c1 / 4294967296 < 4294967296 := Nat.div_lt_of_lt_mul (by omega)
      refine ⟨hq, wrap64 (by omega) (by omega), wrap64 (by omega) (by omega), ?_⟩
      obtain ⟨r, l', hl', hr', hd, hlw, hneg⟩ : ∃ r l' : Nat, l' ≤ 1 ∧ r < 4294967296 ∧ r + c1 % 4294967296 + l = x + 4294967296 * l' ∧ IntKind.u32.wrap ((x : Int) - ((c1 % 4294967296 : Nat) : Int) - (l : Int)) = ((r : Nat) : Int) ∧ ((x : Int) - ((c1 % 4294967296 : Nat) : Int) - (l : Int) < 0 ↔ l' = 1) := by
        by_cases hn : (x : Int) - ((c1 % 4294967296 : Nat) : Int) - (l : Int) < 0
        · exact ⟨x + 4294967296 - c1 % 4294967296 - l, 1, by omega, by omega, by omega, wrap_neg (by omega) hn (by omega), fun _ => rfl, fun _ => hn⟩
        · exact ⟨x - c1 % 4294967296 - l, 0, by omega, by omega, by omega, by rw [IntKind.wrap_u32]; omega, fun h => absurd h hn, fun h => by omega⟩
      refine ⟨r, l', hl', hneg, hlw, by omega, by rw [List.length_set]; exact hol, set_lt hod hr', hq, hl', ?_, fun j hj => by rw [List.getElem?_set_ne (by omega)]; exact hag j (by omega)⟩
      have hy' : val 4294967296 (vs.take (i + 1)) = val 4294967296 (vs.take i) + 4294967296 ^ i * y := by
        cases hyi : vs[i]? with
        | some d => rw [val_take_succ hyi, h1 d hyi]
        | none =>
          have hle := List.getElem?_eq_none_iff.1 hyi
          rw [h2 hle, val_take_ge hle, val_take_ge (by omega), Nat.mul_zero, Nat.add_zero]
      rw [val_take_succ hx', hy', val_set_take (by omega), Nat.pow_succ]
      have := away_step hv hc1 hdv.symm hd
      rw [this, Nat.mul_add, Nat.mul_left_comm t]
    by_cases hlt : (i : Int) < (n2 : Int)
    · obtain ⟨y, hy⟩ : ∃ y, vs[i]? = some y := ⟨_, List.getElem?_eq_getElem (by omega)⟩
      have ly := hvd y (List.mem_of_getElem? hy)
      have f1 : viaddr 1 (.ref b2 g2 0 n2 c2) (VI i) (H.set b (.row g ((pre ++ outs ++ post).map uV) 1 true)) = some (.ptr b2 g2 i 0) := by rw [viaddr_row (rd2 outs) (by omega), Nat.zero_add]
      have f2 : vload false 1 (.ptr b2 g2 i 0) (H.set b (.row g ((pre ++ outs ++ post).map uV) 1 true)) = some (uV y) := vload_nat (rd2 outs) (by rw [hget i (by omega)]; exact hy)
      have w3 : IntKind.u64.wrap (y : Int) = (y : Int) := wrapU _ (by omega)
      have hty : t * y ≤ 4294967295 * 4294967295 := Nat.mul_le_mul (by omega) (by omega)
      have w4 : IntKind.u64.wrap ((t : Int) * (y : Int)) = ((t * y : Nat) : Int) := by rw [← Int.natCast_mul]; exact wrapU _ (by omega)
      have w5 : IntKind.u64.wrap ((cy : Int) + ((t * y : Nat) : Int)) = ((cy + t * y : Nat) : Int) := by rw [← Int.natCast_add]; exact wrapU _ (by omega)
      have w6 : IntKind.i64.wrap (((cy + t * y) % 4294967296 : Nat) : Int) = (((cy + t * y) % 4294967296 : Nat) : Int) := wrapN _ rfl (by omega)
      obtain ⟨_, a1, a2, r, l', hl', hneg, hw, s1, s2, s3, s4, s5, s6, s7⟩ := step y (cy + t * y) ly rfl (fun d hd => by rw [hy] at hd; injection hd with hd; exact hd.symm) (fun h => by omega)
      by_cases hn : (x : Int) - (((cy + t * y) % 4294967296 : Nat) : Int) - (l : Int) < 0
      · have := hneg.1 hn
        subst this
        simp only [impl_takeAway_b0, k0, k1, k2, k7, k8, k13, k14, hin, hlt, e1, e2, e3, e4, f1, f2, w1, w3, w4, w5, w6, a1, a2, hn, hw, wii, wrap32, shr_u64, VX, Nat.reduceEqDiff, Nat.reduceAdd]
        exact ⟨(i + 1, outs.set i r, (cy + t * y) / 4294967296, 1), by simp only; omega, s1, rfl, s2, s3, s4, s5, s6, s7, by (repeat' apply And.intro) <;> first | rfl | trivial⟩
      · have : l' = 0 := by
          have : l' ≠ 1 := fun h => hn (hneg.2 h)
          omega
        subst this
        simp only [impl_takeAway_b0, k0, k1, k2, k7, k8, k13, k14, hin, hlt, e1, e2, e3, e4, f1, f2, w1, w3, w4, w5, w6, a1, a2, hn, hw, wii, wrap32, shr_u64, VX, Nat.reduceEqDiff, Nat.reduceAdd]
        exact ⟨(i + 1, outs.set i r, (cy + t * y) / 4294967296, 0), by simp only; omega, s1, rfl, s2, s3, s4, s5, s6, s7, by (repeat' apply And.intro) <;> first | rfl | trivial⟩
    · have w6 : IntKind.i64.wrap ((cy % 4294967296 : Nat) : Int) = ((cy % 4294967296 : Nat) : Int) := wrapN _ rfl (by omega)
      obtain ⟨_, a1, a2, r, l', hl', hneg, hw, s1, s2, s3, s4, s5, s6, s7⟩ := step 0 cy (by decide) (by simp) (fun d hd => by have := (List.getElem?_eq_some_iff.1 hd).1; omega) (fun _ => rfl)
      by_cases hn : (x : Int) - ((cy % 4294967296 : Nat) : Int) - (l : Int) < 0
      · have := hneg.1 hn
        subst this
        simp only [impl_takeAway_b0, k0, k1, k2, k7, k8, k13, k14, hin, hlt, e1, e2, e3, e4, w1, w6, a1, a2, hn, hw, wii, wrap32, shr_u64, VX, Nat.reduceEqDiff, Nat.reduceAdd]
        exact ⟨(i + 1, outs.set i r, cy / 4294967296, 1), by simp only; omega, s1, rfl, s2, s3, s4, s5, s6, s7, by (repeat' apply And.intro) <;> first | rfl | trivial⟩
      · have : l' = 0 := by
          have : l' ≠ 1 := fun h => hn (hneg.2 h)
          omega
        subst this
        simp only [impl_takeAway_b0, k0, k1, k2, k7, k8, k13, k14, hin, hlt, e1, e2, e3, e4, w1, w6, a1, a2, hn, hw, wii, wrap32, shr_u64, VX, Nat.reduceEqDiff, Nat.reduceAdd]
        exact ⟨(i + 1, outs.set i r, cy / 4294967296, 0), by simp only; omega, s1, rfl, s2, s3, s4, s5, s6, s7, by (repeat' apply And.intro) <;> first | rfl | trivial⟩
  · have hie : i = L := by omega
    subst hie
    rw [List.take_of_length_le (by omega), List.take_of_length_le (by omega), List.take_of_length_le (by omega)] at hv
    have hol' := val_lt hod
    rw [hol] at hol'
    by_cases hz : l = 0 ∧ cy = 0
    · obtain ⟨rfl, rfl⟩ := hz
      simp only [impl_takeAway_b0, k0, k1, k2, k7, k8, k13, k14, hin, Int.natCast_zero, VX, Nat.reduceEqDiff, Nat.reduceAdd]
      exact ⟨outs, rfl, hol, hod, .inl (by simpa using hv.symm)⟩
    · have hone : cy + l = 1 := by
        rcases away_end hv hol' hVL hfit with h | h <;> omega
      rw [hone, Nat.mul_one] at hv
      have hlts : val 4294967296 seg < t * val 4294967296 vs := by omega
      have fin : ∀ s2 : List Nat, s2.length = i → (∀ d ∈ s2, d < 4294967296) → ∀ c, val 4294967296 outs + val 4294967296 vs = val 4294967296 s2 + 4294967296 ^ i * c → val 4294967296 s2 + t * val 4294967296 vs = val 4294967296 seg + val 4294967296 vs := by
        intro s2 h2 h3 c h4
        have h5 := val_lt h3
        rw [h2] at h5
        exact back_end hv h4 h5 hVL hfit hsl (by omega)
      have hlen := e0 (rd outs hol)
      by_cases hl0 : (l : Int) = 0
      · have hcy : ¬ (cy : Int) = 0 := by omega
        simp only [impl_takeAway_b0, k0, k1, k2, k7, k8, k13, k14, hin, hl0, hcy, hlen, VX, Nat.reduceEqDiff, Nat.reduceAdd]
        exact back _ outs hol hod fin hlts k0 k1 (by rfl) (by rfl) (by rfl)
      · simp only [impl_takeAway_b0, k0, k1, k2, k7, k8, k13, k14, hin, hl0, hlen, VX, Nat.reduceEqDiff, Nat.reduceAdd]
        exact back _ outs hol hod fin hlts k0 k1 (by rfl) (by rfl) (by rfl)
end Go.PM
/- The program's numbers of at least 0: long division. -/
namespace Go.PM
theorem fz_nilD {d : Nat} {H : VHeap} : fz (d + 1) H (.tree [] .nil) = some (natV 0) := by
  rw [natV_zero]
  unfold fz
  have : pureV (.tree [] .nil) = false := by simp [pureV]
  simp only [this, Bool.false_eq_true, if_false]
  rfl
theorem fz_natTD {d : Nat} {H : VHeap} {m : Nat} {t : TK} (ht : t = .cl 1 ∨ t = .op) : fz (d + 2) H (.tree ((digs 4294967296 m).map uV) t) = some (natV m) := by
  rcases ht with rfl | rfl
  · unfold fz
    have : pureV (.tree ((digs 4294967296 m).map uV) (.cl 1)) = false := by simp [pureV]
    simp only [this, Bool.false_eq_true, if_false]
    rw [mapM_pure (pure_map fun _ => rfl)]
    rfl
  · exact fz_pure (natV_pure m)
abbrev H3 (us ws os : List Nat) : VHeap := [.row 0 (us.map uV) 1 true, .row 0 (ws.map uV) 1 true, .row 0 (os.map uV) 1 true]
theorem H3_0 {us ws os : List Nat} : vrow (H3 us ws os) 0 0 = some (us.map uV, 1, true) := rfl
theorem H3_1 {us ws os : List Nat} : vrow (H3 us ws os) 1 0 = some (ws.map uV, 1, true) := rfl
theorem H3_2 {us ws os : List Nat} : vrow (H3 us ws os) 2 0 = some (os.map uV, 1, true) := rfl
theorem seg_facts {us : List Nat} {i n N V : Nat} (hN : us.length = N) (hin : i + n < N) (hd : ∀ d ∈ us, d < 4294967296) (hV : V < 4294967296 ^ n) (hless : val 4294967296 (us.drop (i + 1)) < V) :
    us = us.take i ++ (us.drop i).take (n + 1) ++ us.drop (i + (n + 1)) ∧ (us.take i).length = i ∧ ((us.drop i).take (n + 1)).length = n + 1 ∧ val 4294967296 ((us.drop i).take (n + 1)) < 4294967296 * V ∧ val 4294967296 (us.drop i) = val 4294967296 ((us.drop i).take (n + 1)) ∧ val 4294967296 (us.drop (i + (n + 1))) = 0 ∧ ∀ j, j < n + 1 → ((us.drop i).take (n + 1))[j]? = us[i + j]? := by
  obtain ⟨x, hx⟩ : ∃ x, us[i]? = some x := ⟨_, List.getElem?_eq_getElem (by omega)⟩
  have lx := hd x (List.mem_of_getElem? hx)
  have h1 := val_drop (b := 4294967296) hx
  have h2 : val 4294967296 (us.drop i) < 4294967296 * V := by
    have : 4294967296 * (val 4294967296 (us.drop (i + 1)) + 1) ≤ 4294967296 * V := Nat.mul_le_mul_left _ hless
    omega
  have h3 := val_split (b := 4294967296) (us.drop i) (n + 1)
  have h4 : ((us.drop i).take (n + 1)).length = n + 1 := by rw [List.length_take, List.length_drop]; omega
  rw [h4, List.drop_drop] at h3
  have h5 : val 4294967296 (us.drop (i + (n + 1))) = 0 := by
    rcases Nat.eq_zero_or_pos (val 4294967296 (us.drop (i + (n + 1)))) with h | h
    · exact h
    · have h6 : 4294967296 ^ (n + 1) * 1 ≤ 4294967296 ^ (n + 1) * val 4294967296 (us.drop (i + (n + 1))) := Nat.mul_le_mul_left _ h
      have h7 : 4294967296 * V ≤ 4294967296 ^ (n + 1) := by rw [Nat.pow_succ, Nat.mul_comm]; exact Nat.mul_le_mul_right _ (by omega)
      omega
  rw [h5, Nat.mul_zero, Nat.add_zero] at h3
  refine ⟨?_, by rw [List.length_take]; omega, h4, by omega, h3, h5, fun j hj => ?_⟩
  · rw [List.append_assoc, ← List.drop_drop, List.take_append_drop, List.take_append_drop]
  · rw [List.getElem?_take_of_lt hj, List.getElem?_drop]
theorem shift_digit {x D p w : Nat} (hp : 0 < p) (hw : p * w = 4294967296) : (x + 4294967296 * D) / p = ((D % 4294967296 * 4294967296 + x) / p) % 4294967296 + 4294967296 * (D / p) ∨ ¬ x < 4294967296 := by
  rcases Nat.lt_or_ge x 4294967296 with hx | hx
  · left
    have h1 : (x + 4294967296 * D) / p / 4294967296 = D / p := by
      rw [Nat.div_div_eq_div_mul, Nat.mul_comm p, ← Nat.div_div_eq_div_mul, Nat.add_mul_div_left _ _ (by decide), Nat.div_eq_of_lt hx, Nat.zero_add]
    have h2 : (x + 4294967296 * D) / p % 4294967296 = (D % 4294967296 * 4294967296 + x) / p % 4294967296 := by
      have e : x + 4294967296 * D = (D % 4294967296 * 4294967296 + x) + p * (4294967296 * (w * (D / 4294967296))) := by
        have h3 := Nat.mod_add_div D 4294967296
        have h4 : p * (4294967296 * (w * (D / 4294967296))) = (p * w) * (4294967296 * (D / 4294967296)) := by grind
        rw [h4, hw]
        omega
      rw [e, Nat.add_mul_div_left _ _ hp, Nat.add_mul_mod_self_left]
    have := Nat.mod_add_div ((x + 4294967296 * D) / p) 4294967296
    rw [h1, h2] at this
    exact this.symm
  · right
    omega
theorem bitLen_top {x : Nat} (h0 : x ≠ 0) (hx : x < 4294967296) : ∃ s, s ≤ 31 ∧ TC 159 [uV x] (VI (s : Nat)) ∧ x * 2 ^ s < 4294967296 := by
  obtain ⟨h1, h2, h3⟩ := Lib.bitLenAux_bounds 64 x (by omega) h0
  have h4 : Lib.bitLenAux 64 x - 1 < 32 := by
    have : 2 ^ (Lib.bitLenAux 64 x - 1) < 2 ^ 32 := by omega
    exact (Nat.pow_lt_pow_iff_right (by decide)).1 this
  refine ⟨32 - Lib.bitLenAux 64 x, by omega, ?_, ?_⟩
  · have := leading_v x hx
    have e : (((32 - Lib.bitLenAux 64 x : Nat)) : Int) = 32 - (Lib.bitLen x : Int) := by unfold Lib.bitLen; omega
    rw [e]
    exact this
  · have : 2 ^ Lib.bitLenAux 64 x * 2 ^ (32 - Lib.bitLenAux 64 x) = 4294967296 := by rw [← Nat.pow_add, show Lib.bitLenAux 64 x + (32 - Lib.bitLenAux 64 x) = 32 by omega]
    rw [← this]
    exact Nat.mul_lt_mul_of_pos_right h3 (Nat.pow_pos (by decide))
theorem down_loop {us ws os : List Nat} {k N s w0 : Nat} {ρ : VEnv} {Q : VQ} (hs : s ≤ 31) (hw : 2 ^ s * w0 = 4294967296) (hN : us.length = N) (hk : k ≤ N) (hcap : N ≤ 70368744177664) (hd : ∀ d ∈ us, d < 4294967296) (g8 : ρ 8 = VI s) (g9 : ρ 9 = .ref 0 0 0 k N) (g147 : ρ 147 = VI k) (g148 : ρ 148 = VI 0)
    (hQ : ∀ (ρ' : VEnv) (us' : List Nat), ρ' 9 = .ref 0 0 0 k N → ρ' 13 = ρ 13 → us'.length = N → (∀ d ∈ us', d < 4294967296) → val 4294967296 (us'.take k) = val 4294967296 (us.take k) / 2 ^ s → Q (.exit 4) ρ' (H3 us' ws os)) :
    VW ⟨true, false⟩ 0 (.loop _impl_nat__div_b2) Q ρ (H3 us ws os) := by
  have hp : 0 < 2 ^ s := Nat.pow_pos (by decide)
  refine VW_loop (fun (t : Nat × List Nat) ρ' H => t.1 ≤ k ∧ H = H3 t.2 ws os ∧ t.2.length = N ∧ (∀ d ∈ t.2, d < 4294967296) ∧ (∀ j, t.1 ≤ j → t.2[j]? = us[j]?) ∧ val 4294967296 (t.2.take t.1) + 4294967296 ^ t.1 * (val 4294967296 ((us.take k).drop t.1) / 2 ^ s) = val 4294967296 (us.take k) / 2 ^ s ∧
    ρ' 8 = VI s ∧ ρ' 9 = .ref 0 0 0 k N ∧ ρ' 13 = ρ 13 ∧ ρ' 147 = VI k ∧ ρ' 148 = VI t.1) (fun t => k - t.1) (0, us) ⟨Nat.zero_le _, rfl, hN, hd, fun _ _ => rfl, by simp [val], g8, g9, rfl, g147, g148⟩ ?_
  rintro ⟨i, vs⟩ ρ2 H ⟨hi, rfl, hvl, hvd, hag, hv, k8, k9, k13, k147, k148⟩
  simp only at hi hvl hvd hag hv k148
  by_cases hin : (i : Int) < (k : Int)
  · obtain ⟨x, hx⟩ : ∃ x, us[i]? = some x := ⟨_, List.getElem?_eq_getElem (by omega)⟩
    have hx2 : vs[i]? = some x := by rw [hag i (Nat.le_refl _)]; exact hx
    have lx := hd x (List.mem_of_getElem? hx)
    have hx3 : (us.take k)[i]? = some x := by rw [List.getElem?_take_of_lt (by omega)]; exact hx
    have h1 := val_drop (b := 4294967296) hx3
    generalize hD : val 4294967296 ((us.take k).drop (i + 1)) = D at *
    have hlen : vlen (.ref 0 0 0 k N) (H3 vs ws os) = some (VI k) := vlen_ref H3_0
    have e1 : viaddr 1 (.ref 0 0 0 k N) (VI i) (H3 vs ws os) = some (.ptr 0 0 i 0) := by rw [viaddr_row H3_0 (by omega), Nat.zero_add]
    have e2 : vload false 1 (.ptr 0 0 i 0) (H3 vs ws os) = some (uV x) := vload_nat H3_0 hx2
    have e3 : ∀ d : Nat, vstore 0 1 (.ptr 0 0 i 0) (uV d) (H3 vs ws os) = some (H3 (vs.set i d) ws os) := fun d => by
      rw [vstore_map (f := uV) (e := 1) H3_0 (by omega) (Nat.le_refl _) rfl rfl]
      rfl
    have wi : IntKind.i64.wrap ((i : Int) + 1) = ((i + 1 : Nat) : Int) := wrapN (i + 1) (by omega) (by omega)
    have wx : IntKind.u64.wrap (x : Int) = (x : Int) := wrapU _ (by omega)
    have hm := Nat.mod_lt D (show 0 < 4294967296 by decide)
    have w5 := shl_u64 (D % 4294967296) .u64 hm
    have w6 : IntKind.u64.wrap (((D % 4294967296 * 4294967296 : Nat) : Int) + (x : Int)) = ((D % 4294967296 * 4294967296 + x : Nat) : Int) := by rw [← Int.natCast_add]; exact wrapU _ (by omega)
    have w7 := shr_by (D % 4294967296 * 4294967296 + x) s hs
    have sd : (x + 4294967296 * D) / 2 ^ s = ((D % 4294967296 * 4294967296 + x) / 2 ^ s) % 4294967296 + 4294967296 * (D / 2 ^ s) := by
      rcases shift_digit (x := x) (D := D) hp hw with h | h
      · exact h
      · exact absurd lx h
    have next : ∃ s' : Nat × List Nat, k - s'.1 < k - i ∧ s'.1 ≤ k ∧ H3 (vs.set i (((D % 4294967296 * 4294967296 + x) / 2 ^ s) % 4294967296)) ws os = H3 s'.2 ws os ∧ s'.2.length = N ∧ (∀ d ∈ s'.2, d < 4294967296) ∧ (∀ j, s'.1 ≤ j → s'.2[j]? = us[j]?) ∧ val 4294967296 (s'.2.take s'.1) + 4294967296 ^ s'.1 * (val 4294967296 ((us.take k).drop s'.1) / 2 ^ s) = val 4294967296 (us.take k) / 2 ^ s ∧ s'.1 = i + 1 := by
      refine ⟨(i + 1, vs.set i (((D % 4294967296 * 4294967296 + x) / 2 ^ s) % 4294967296)), by simp only; omega, by simp only; omega, rfl, by simp only [List.length_set]; exact hvl, set_lt hvd (Nat.mod_lt _ (by decide)), fun j hj => ?_, ?_, rfl⟩
      · simp only at hj ⊢
        rw [List.getElem?_set_ne (by omega)]
        exact hag j (by omega)
      · simp only
        rw [val_set_take (by omega), hD, ← hv, h1, sd, Nat.pow_succ]
        generalize (D % 4294967296 * 4294967296 + x) / 2 ^ s % 4294967296 = q
        generalize D / 2 ^ s = E
        rw [Nat.mul_add, Nat.mul_assoc, Nat.add_assoc]
    obtain ⟨s', n1, n2, n3, n4, n5, n6, n7, n8⟩ := next
    by_cases hin2 : ((i + 1 : Nat) : Int) < (k : Int)
    · obtain ⟨h, hh⟩ : ∃ h, us[i + 1]? = some h := ⟨_, List.getElem?_eq_getElem (by omega)⟩
      have hh2 : vs[i + 1]? = some h := by rw [hag (i + 1) (by omega)]; exact hh
      have hhD : D % 4294967296 = h := by
        have hh3 : (us.take k)[i + 1]? = some h := by rw [List.getElem?_take_of_lt (by omega)]; exact hh
        have := val_drop (b := 4294967296) hh3
        rw [hD] at this
        have lh := hd h (List.mem_of_getElem? hh)
        omega
      have f1 : viaddr 1 (.ref 0 0 0 k N) (VI ((i + 1 : Nat) : Int)) (H3 vs ws os) = some (.ptr 0 0 (i + 1) 0) := by rw [viaddr_row H3_0 (by omega), Nat.zero_add]
      have f2 : vload false 1 (.ptr 0 0 (i + 1) 0) (H3 vs ws os) = some (uV h) := vload_nat H3_0 hh2
      have wh : IntKind.u64.wrap (h : Int) = (h : Int) := wrapU _ (by omega)
      rw [hhD] at w5 w6 w7 n3
      simp only [_impl_nat__div_b2, k8, k9, k147, k148, hin, hin2, hlen, e1, e2, e3, f1, f2, wi, wx, wh, w5, w6, w7, wrap32, VX, Nat.reduceEqDiff, Nat.reduceAdd]
      exact ⟨s', n1, n2, n3, n4, n5, n6, n7, k13, by rw [n8]⟩
    · have hD0 : D = 0 := by
        rw [← hD, List.drop_of_length_le (by rw [List.length_take]; omega)]
        rfl
      subst hD0
      have w5' : pbin .shl (.int .u64 0) (.int .u64 32) = some (.int .u64 0) := shl_u64 0 .u64 (by decide)
      have w6' : IntKind.u64.wrap ((0 : Int) + (x : Int)) = (x : Int) := by rw [Int.zero_add]; exact wx
      have w7' := shr_by x s hs
      simp only [Nat.zero_mod, Nat.zero_mul, Nat.zero_add] at n3
      simp only [_impl_nat__div_b2, k8, k9, k147, k148, hin, hin2, hlen, e1, e2, e3, wi, wx, w5', w6', w7', wrap32, VX, Nat.reduceEqDiff, Nat.reduceAdd]
      exact ⟨s', n1, n2, n3, n4, n5, n6, n7, k13, by rw [n8]⟩
  · have hie : i = k := by omega
    subst hie
    rw [List.drop_of_length_le (by rw [List.length_take]; omega)] at hv
    simp only [val, Nat.zero_div, Nat.mul_zero, Nat.add_zero] at hv
    simp only [_impl_nat__div_b2, k8, k9, k147, k148, hin, VX, Nat.reduceEqDiff, Nat.reduceAdd]
    exact hQ _ vs k9 k13 hvl hvd hv
end Go.PM
