/- Texts of a claim, in one: part 9. -/
import Derived.KernelRfl
import Derived.Test.YtbgfeiagaieljaaGreatDoorKFh
/- The program's fractions: texts read. -/
set_option linter.unusedSimpArgs false
set_option linter.unusedVariables false
namespace Go.PM
open Go.Lib
theorem sidx_str (l : List UInt8) {i : Nat} (h : i < l.length) : sidxV (.string ⟨l.toArray⟩) (.int .i64 (i : Int)) = some (.int .u8 ((l.getD i 0).toNat : Int)) := by
  have hs : (⟨l.toArray⟩ : ByteArray).size = l.length := by simp [ByteArray.size]
  have e1 : (0 : Int) ≤ i ∧ (i : Int) < (l.length : Int) := by omega
  simp only [sidxV, hs, e1, and_self, if_true, Int.toNat_natCast]
theorem sidx_str0 (l : List UInt8) (h : 0 < l.length) : sidxV (.string ⟨l.toArray⟩) (.int .i64 0) = some (.int .u8 ((l.getD 0 0).toNat : Int)) := sidx_str l h
theorem str_extractI (l : List UInt8) (a b : Nat) : (⟨l.toArray⟩ : ByteArray).extract a b = ⟨((l.drop a).take (b - a)).toArray⟩ := by
  rw [ByteArray.ext_iff, ByteArray.data_extract]
  simp [List.extract_toArray, List.extract_eq_take_drop]
theorem ssubI_from (l : List UInt8) {a : Nat} (h : a ≤ l.length) : vssub (strV l) (some (VI (a : Int))) none = some (strV (l.drop a)) := by
  have hs : (⟨l.toArray⟩ : ByteArray).size = l.length := by simp [ByteArray.size]
  have e2 : (0 : Int) ≤ a ∧ (a : Int) ≤ (l.length : Int) := by omega
  simp only [vssub, vnum, psliceB, hs, pbound, e2, and_self, if_true, Int.toNat_natCast, str_extractI]
  rw [List.take_of_length_le (by simp)]
theorem ssubI_to (l : List UInt8) {b : Nat} (hb : b ≤ l.length) : vssub (strV l) none (some (VI (b : Int))) = some (strV (l.take b)) := by
  have hs : (⟨l.toArray⟩ : ByteArray).size = l.length := by simp [ByteArray.size]
  have e1 : (0 : Int) ≤ b ∧ (b : Int) ≤ (l.length : Int) := by omega
  simp only [vssub, vnum, psliceB, hs, pbound, e1, and_self, if_true, Int.toNat_natCast, str_extractI]
  rw [List.drop_zero, Nat.sub_zero]
theorem str_eql_nil (l : List UInt8) : pbin .eql (.string ⟨l.toArray⟩) (.string ⟨#[]⟩) = some (.bool (decide (l = []))) := str_eql l []
theorem str_neq_nil (l : List UInt8) : pbin .neq (.string ⟨l.toArray⟩) (.string ⟨#[]⟩) = some (.bool (!decide (l = []))) := str_neq l []
theorem hasPrefix45 (l : List UInt8) : TC 172 [strV l, strV [45]] (VB (isNeg l)) := by
  refine TC.walk ⟨true, false⟩ internal_stringslite_HasPrefix_t rfl (Nat.le_of_ble_eq_true rfl) rfl rfl ?_
  have e1 : slenV (.string ⟨#[45]⟩) = some (.int .i64 1) := rfl
  by_cases h : (1 : Int) ≤ (l.length : Int)
  · have e2 := ssubI_to l (b := 1) (by omega)
    have e2 : vssub (strV l) none (some (VI 1)) = some (strV (l.take 1)) := e2
    have e3 : pbin .eql (.string ⟨(l.take 1).toArray⟩) (.string ⟨#[45]⟩) = some (.bool (decide (l.take 1 = [45]))) := str_eql (l.take 1) [45]
    have e4 : isNeg l = decide (l.take 1 = [45]) := by
      cases l with
      | nil => exact absurd h (by decide)
      | cons c l => rw [isNeg_cons]; simp
    rw [e4]
    simp only [internal_stringslite_HasPrefix, internal_stringslite_HasPrefix_c, slen_str, e1, ge_iff_le, h, e2, e3, VX, Nat.reduceEqDiff, Nat.reduceAdd]
    exact fz_res rfl
  · have e4 : isNeg l = false := by unfold isNeg; rw [decide_eq_false (by omega)]; rfl
    rw [e4]
    simp only [internal_stringslite_HasPrefix, internal_stringslite_HasPrefix_c, slen_str, e1, ge_iff_le, h, VX, Nat.reduceEqDiff, Nat.reduceAdd]
    exact fz_res rfl
theorem cutPrefix45' (l : List UInt8) : TC 149 [strV l, strV [45]] (.tup [strV (if isNeg l then l.drop 1 else l), VB (isNeg l)]) := by
  refine TC.walk ⟨true, false⟩ internal_stringslite_CutPrefix_t rfl (Nat.le_of_ble_eq_true rfl) rfl rfl ?_
  have e0 := hasPrefix45 l
  have e1 : slenV (.string ⟨#[45]⟩) = some (.int .i64 1) := rfl
  cases h : isNeg l with
  | true =>
    rw [h] at e0
    have hl : 1 ≤ l.length := by
      cases l with
      | nil => cases h
      | cons c l => simp
    have e2 : vssub (strV l) (some (VI 1)) none = some (strV (l.drop 1)) := ssubI_from l (a := 1) hl
    simp only [internal_stringslite_CutPrefix, internal_stringslite_CutPrefix_c, e0, e1, e2, VX, Nat.reduceEqDiff, Nat.reduceAdd]
    exact fz_res rfl
  | false =>
    rw [h] at e0
    simp only [internal_stringslite_CutPrefix, internal_stringslite_CutPrefix_c, e0, Bool.false_eq_true, if_false, VX, Nat.reduceEqDiff, Nat.reduceAdd]
    exact fz_res rfl
theorem cutPrefix45 (l : List UInt8) : TC 129 [strV l, strV [45]] (.tup [strV (if isNeg l then l.drop 1 else l), VB (isNeg l)]) := by
  refine TC.walk ⟨true, false⟩ strings_CutPrefix_t rfl (Nat.le_of_ble_eq_true rfl) rfl rfl ?_
  have e0 := cutPrefix45' l
  simp only [strings_CutPrefix, strings_CutPrefix_c, e0, VX, Nat.reduceEqDiff, Nat.reduceAdd]
  exact fz_res rfl
theorem cut47' (l : List UInt8) (hl : l.length ≤ 1000000000000) : TC 148 [strV l, strV [47]] (.tup [strV (cutB 47 l).1, strV ((cutB 47 l).2.getD []), VB (cutB 47 l).2.isSome]) := by
  refine TC.walk ⟨true, false⟩ internal_stringslite_Cut_t rfl (Nat.le_of_ble_eq_true rfl) rfl rfl ?_
  have e0 := index_v l 47
  have e1 : slenV (.string ⟨#[47]⟩) = some (.int .i64 1) := rfl
  cases h : (cutB 47 l).2 with
  | none =>
    obtain ⟨h1, h2, _⟩ := cutB_none h
    rw [h1] at e0
    rw [h2]
    simp only [internal_stringslite_Cut, internal_stringslite_Cut_c, e0, ge_iff_le, Int.reduceNeg, Int.reduceLE, VX, Nat.reduceEqDiff, Nat.reduceAdd]
    exact fz_res rfl
  | some r =>
    obtain ⟨h1, h2, _⟩ := cutB_some h
    rw [h1] at e0
    generalize (cutB 47 l).1 = a at *
    subst h2
    rw [List.length_append, List.length_cons] at hl
    have h0 : (0 : Int) ≤ (a.length : Int) := by omega
    have e2 := ssubI_to (a ++ 47 :: r) (b := a.length) (by simp)
    have e3 := ssubI_from (a ++ 47 :: r) (a := a.length + 1) (by simp)
    rw [List.take_left] at e2
    have ed : (a ++ 47 :: r).drop (a.length + 1) = r := by rw [List.drop_append]; simp
    rw [ed] at e3
    have w : IntKind.i64.wrap ((a.length : Int) + 1) = ((a.length + 1 : Nat) : Int) := wrapN _ (by omega) (by omega)
    simp only [internal_stringslite_Cut, internal_stringslite_Cut_c, e0, e1, ge_iff_le, h0, w, e2, e3, VX, Nat.reduceEqDiff, Nat.reduceAdd]
    exact fz_res rfl
theorem cut47 (l : List UInt8) (hl : l.length ≤ 1000000000000) : TC 128 [strV l, strV [47]] (.tup [strV (cutB 47 l).1, strV ((cutB 47 l).2.getD []), VB (cutB 47 l).2.isSome]) := by
  refine TC.walk ⟨true, false⟩ strings_Cut_t rfl (Nat.le_of_ble_eq_true rfl) rfl rfl ?_
  have e0 := cut47' l hl
  simp only [strings_Cut, strings_Cut_c, e0, VX, Nat.reduceEqDiff, Nat.reduceAdd]
  exact fz_res rfl
def readR (l : List UInt8) : VV := if natOk l = true then .tup [natV (decV l), VB true] else .tup [natV 0, VB false]
theorem readR_res (l : List UInt8) : resV (readR l) = true := by
  unfold readR
  split <;> simp [resV, resL, natV_res, isSc]
theorem fz_emp {d : Nat} : fz (d + 1) [.row 0 [] 1 true] (.ref 0 0 0 0 0) = some (natV 0) := by
  rw [natV_zero]
  cases d with
  | zero => rfl
  | succ d => rfl
theorem readNat_b1 {n : Nat} (hn : n ≤ 9) {lo : Nat} {H : VHeap} {ρ : VEnv} {Q : VQ} (h58 : ρ 58 = VI n) (h59 : ρ 59 = VI 0) (h9 : ρ 9 = VK .u64 1) (hQ : ∀ ρ', (∀ t, t < 9 → ρ' t = ρ t) → ρ' 9 = VK .u64 ((10 ^ n : Nat) : Int) → Q .normal ρ' H) : VW ⟨true, false⟩ lo (.loop impl_readNat_b1) (onExit 4 Q) ρ H := by
  refine VW_loop (fun (i : Nat) ρ' H' => i ≤ n ∧ H' = H ∧ (∀ t, t < 9 → ρ' t = ρ t) ∧ ρ' 58 = VI n ∧ ρ' 59 = VI i ∧ ρ' 9 = VK .u64 ((10 ^ i : Nat) : Int)) (fun i => n - i) 0 ⟨Nat.zero_le _, rfl, fun _ _ => rfl, h58, h59, h9⟩ ?_
  rintro i ρ' H' ⟨hi, rfl, hk, g58, g59, g9⟩
  by_cases hin : (i : Int) < (n : Int)
  · have wi : IntKind.i64.wrap ((i : Int) + 1) = ((i + 1 : Nat) : Int) := wrapN (i + 1) (by omega) (by omega)
    have hp : 10 ^ i ≤ 10 ^ 8 := Nat.pow_le_pow_right (by decide) (by omega)
    have e8 : (10 : Nat) ^ 8 = 100000000 := by decide
    have wp : IntKind.u64.wrap (((10 ^ i : Nat) : Int) * 10) = ((10 ^ (i + 1) : Nat) : Int) := by
      rw [Nat.pow_succ]
      generalize 10 ^ i = p at *
      have := wrapU (p * 10) (by omega)
      rw [Int.natCast_mul] at this
      rw [Int.natCast_mul]
      exact this
    simp only [impl_readNat_b1, g58, g59, g9, hin, wi, wp, VX, Nat.reduceEqDiff, Nat.reduceAdd]
    refine ⟨i + 1, by omega, by omega, fun t ht => ?_, rfl, rfl⟩
    try simp only [vput_app]
    repeat rw [if_neg (by omega)]
    exact hk t ht
  · have hie : i = n := by omega
    subst hie
    simp only [impl_readNat_b1, g58, g59, hin, VX, Nat.reduceEqDiff, Nat.reduceAdd]
    refine hQ _ (fun t ht => ?_) ?_
    · try simp only [vput_app]
      repeat rw [if_neg (by omega)]
      exact hk t ht
    · simp only [g9, VX, Nat.reduceEqDiff, Nat.reduceAdd]
theorem all_take {l : List UInt8} {i : Nat} (h : i < l.length) : (l.take (i + 1)).all isDig = ((l.take i).all isDig && isDig (l.getD i 0)) := by
  rw [List.take_add_one, List.all_append]
  have : l[i]? = some (l.getD i 0) := by rw [List.getElem?_eq_getElem h, List.getD_eq_getElem?_getD, List.getElem?_eq_getElem h]; rfl
  rw [this]
  simp
theorem readNat_b0 {l : List UInt8} (hl : l.length ≤ 1000000000000) {lo : Nat} {H : VHeap} {ρ : VEnv} {Q : VQ} (h0 : ρ 0 = strV l) (h29 : ρ 29 = VI l.length) (h30 : ρ 30 = VI 0)
    (hR : l.all isDig = false → ∀ ρ' : VEnv, ρ' 2 = .tree [] .nil → ρ' 3 = VB false → Q .ret ρ' H) (hN : l.all isDig = true → ∀ ρ' : VEnv, (∀ t, t < 5 → ρ' t = ρ t) → Q .normal ρ' H) : VW ⟨true, false⟩ lo (.loop impl_readNat_b0) (onExit 0 Q) ρ H := by
  refine VW_loop (fun (i : Nat) ρ' H' => i ≤ l.length ∧ H' = H ∧ (l.take i).all isDig = true ∧ (∀ t, t < 5 → ρ' t = ρ t) ∧ ρ' 29 = VI l.length ∧ ρ' 30 = VI i) (fun i => l.length - i) 0 ⟨Nat.zero_le _, rfl, rfl, fun _ _ => rfl, h29, h30⟩ ?_
  rintro i ρ' H' ⟨hi, rfl, hd, hk, g29, g30⟩
  have g0 := (hk 0 (by decide)).trans h0
  by_cases hin : (i : Int) < (l.length : Int)
  · have hil : i < l.length := by omega
    have e1 := sidx_str l hil
    have wi : IntKind.i64.wrap ((i : Int) + 1) = ((i + 1 : Nat) : Int) := wrapN (i + 1) (by omega) (by omega)
    have ht := all_take hil
    rw [hd, Bool.true_and] at ht
    have hdig : isDig (l.getD i 0) = (decide (48 ≤ (l.getD i 0).toNat) && decide ((l.getD i 0).toNat ≤ 57)) := rfl
    have hall : isDig (l.getD i 0) = false → l.all isDig = false := by
      intro h
      rw [h] at ht
      rw [← List.take_append_drop (i + 1) l, List.all_append, ht, Bool.false_and]
    generalize (l.getD i 0).toNat = c at *
    by_cases q1 : (c : Int) < 48
    · have := hall (by rw [hdig, decide_eq_false (by omega)]; rfl)
      simp only [impl_readNat_b0, g0, g29, g30, hin, e1, q1, VX, Nat.reduceEqDiff, Nat.reduceAdd]
      exact hR this _ (by simp only [VX, Nat.reduceEqDiff, Nat.reduceAdd]) (by simp only [VX, Nat.reduceEqDiff, Nat.reduceAdd])
    · by_cases q2 : (57 : Int) < (c : Int)
      · have := hall (by rw [hdig, decide_eq_false (show ¬ c ≤ 57 by omega), Bool.and_false])
        simp only [impl_readNat_b0, g0, g29, g30, hin, e1, q1, q2, VX, Nat.reduceEqDiff, Nat.reduceAdd]
        exact hR this _ (by simp only [VX, Nat.reduceEqDiff, Nat.reduceAdd]) (by simp only [VX, Nat.reduceEqDiff, Nat.reduceAdd])
      · rw [hdig, decide_eq_true (by omega), decide_eq_true (by omega), Bool.and_self] at ht
        simp only [impl_readNat_b0, g0, g29, g30, hin, e1, q1, q2, wi, VX, Nat.reduceEqDiff, Nat.reduceAdd]
        refine ⟨i + 1, by omega, by omega, ht, fun t ht => ?_, rfl⟩
        try simp only [vput_app]
        repeat rw [if_neg (by omega)]
        exact hk t ht
  · have hie : i = l.length := by omega
    subst hie
    rw [List.take_length] at hd
    simp only [impl_readNat_b0, g29, g30, hin, VX, Nat.reduceEqDiff, Nat.reduceAdd]
    refine hN hd _ fun t ht => ?_
    try simp only [vput_app]
    repeat rw [if_neg (by omega)]
    exact hk t ht
set_option maxHeartbeats 2000000 in
theorem readNat_b2 {l : List UInt8} (hd : l.all isDig = true) (hl : l.length ≤ 200) (hne : l ≠ []) {ρ : VEnv} {Q : VQ} (h0 : ρ 0 = strV l) (h4 : ρ 4 = .ref 0 0 0 0 0)
    (hQ : ∀ (ρ' : VEnv), ρ' 4 = natV (decV l) → Q .normal ρ' [.row 0 [] 1 false]) : VW ⟨true, false⟩ 0 (.loop impl_readNat_b2) (onExit 2 Q) ρ [.row 0 [] 1 true] := by
  refine VW_loop (fun (s : List UInt8 × List UInt8) ρ' H' => l = s.1 ++ s.2 ∧ ρ' 0 = strV s.2 ∧ ((H' = [.row 0 [] 1 true] ∧ ρ' 4 = .ref 0 0 0 0 0 ∧ s.1 = []) ∨ (H' = [.row 0 [] 1 false] ∧ ρ' 4 = natV (decV s.1)))) (fun s => s.2.length) ([], l) ⟨rfl, h0, .inl ⟨rfl, h4, rfl⟩⟩ ?_
  rintro ⟨pre, rest⟩ ρ' H' ⟨hsp, g0, hv⟩
  simp only at hsp g0 hv
  have e1 := str_neq_nil rest
  by_cases he : rest = []
  · subst he
    rw [List.append_nil] at hsp
    subst hsp
    rcases hv with ⟨_, _, h⟩ | ⟨rfl, g4⟩
    · exact absurd h hne
    have e1' : pbin .neq (.string ⟨#[]⟩) (.string ⟨#[]⟩) = some (.bool false) := by
      have := str_neq_nil []
      rw [decide_eq_true rfl] at this
      exact this
    simp only [impl_readNat_b2, g0, e1', VX, Nat.reduceEqDiff, Nat.reduceAdd]
    exact hQ _ (by simp only [g4, VX, Nat.reduceEqDiff, Nat.reduceAdd])
  · rw [hsp, List.all_append, Bool.and_eq_true] at hd
    obtain ⟨hd1, hd2⟩ := hd
    rw [hsp, List.length_append] at hl
    have hpos : 0 < rest.length := List.length_pos_iff.2 he
    have e1' : pbin .neq (.string ⟨rest.toArray⟩) (.string ⟨#[]⟩) = some (.bool true) := by rw [e1, decide_eq_false he]; rfl
    have wm : (rest.length : Int).tmod 9 = ((rest.length % 9 : Nat) : Int) := by rw [Int.tmod_eq_emod_of_nonneg (by omega)]; simp
    have er : pbin .rem (.int .i64 (rest.length : Int)) (.int .i64 9) = some (.int .i64 ((rest.length % 9 : Nat) : Int)) := by
      rw [← wm]
      rfl
    obtain ⟨n, hn⟩ : ∃ n, n = if rest.length % 9 = 0 then 9 else rest.length % 9 := ⟨_, rfl⟩
    have hn1 : 1 ≤ n ∧ n ≤ 9 ∧ n ≤ rest.length := by
      rw [hn]
      split <;> omega
    obtain ⟨n1, n9, nl⟩ := hn1
    have e2 := ssubI_to rest nl
    have e3 := ssubI_from rest nl
    have hch : (rest.take n).length = n := by rw [List.length_take]; omega
    have hcd : (rest.take n).all isDig = true := by
      rw [← List.take_append_drop n rest, List.all_append, Bool.and_eq_true] at hd2
      exact hd2.1
    have hp := parse_v (rest.take n) (decV (rest.take n)) (by omega) (parseB hcd (fun h => by rw [h] at hch; simp at hch; omega) (by omega))
    have hvl := decV_lt hcd
    rw [hch] at hvl
    have hp9 : 10 ^ n ≤ 10 ^ 9 := Nat.pow_le_pow_right (by decide) n9
    have e9 : (10 : Nat) ^ 9 = 1000000000 := by decide
    have hvl9 : decV (rest.take n) < 1000000000 := by omega
    have c1 := impl_natOf_v (10 ^ n) (by omega)
    have c2 := impl_natOf_v (decV (rest.take n)) (by omega)
    have hbp : bl (decV pre) ≤ 665 := by
      refine bl_le (Nat.lt_of_lt_of_le (decV_lt hd1) ?_)
      exact Nat.le_trans (Nat.pow_le_pow_right (by decide) (by omega : pre.length ≤ 200)) (by decide +kernel)
    have hb9 : bl (10 ^ n) ≤ 64 := bl_le (by omega)
    have hbm := bl_mul (decV pre) (10 ^ n)
    have hbc : bl (decV (rest.take n)) ≤ 64 := bl_le (by omega)
    have tm := impl_nat_mul_v (decV pre) (10 ^ n) (capW' (by omega)) (capW' (by omega))
    have c4 := impl_nat_add_v (decV pre * 10 ^ n) (decV (rest.take n)) (capW' (by omega)) (capW' (by omega))
    have hnew : decV pre * 10 ^ n + decV (rest.take n) = decV (pre ++ rest.take n) := by rw [decV_app, hch]
    rw [hnew] at c4
    have fin : (rest.drop n).length < rest.length ∧ pre ++ rest = (pre ++ rest.take n) ++ rest.drop n := ⟨by rw [List.length_drop]; omega, by rw [List.append_assoc, List.take_append_drop]⟩
    obtain ⟨v4, g4, c3⟩ : ∃ v4, ρ' 4 = v4 ∧ ∀ lo K, vcallP 110 [v4, natV (10 ^ n)] lo H' K = K (natV (decV pre * 10 ^ n)) [.row 0 [] 1 false] := by
      rcases hv with ⟨rfl, g4, hp0⟩ | ⟨rfl, g4⟩
      · refine ⟨_, g4, fun lo K => ?_⟩
        subst hp0
        have := tm.withRows (H := [.row 0 [] 1 true]) (args := [.ref 0 0 0 0 0, natV (10 ^ n)]) (lo := lo) (k := K) rfl (by simp [pureL, natV_pure]) (fz2 fz_emp (fz_pure (natV_pure _))) rfl
        rw [this, show flatV (natV (decV [] * 10 ^ n)) = false from rfl, if_neg (by decide), List.flatMap_cons, List.flatMap_cons, List.flatMap_nil, fzIds_pure (natV_pure _), fzIds_row (n := 0) (c := 0) (es := []) (e := 1) (w := true) vrow_zero rfl rfl]
        rfl
      · exact ⟨_, g4, fun lo K => tm lo [.row 0 [] 1 false] K⟩
    clear hv
    obtain ⟨P, hP⟩ : ∃ P, P = 10 ^ n := ⟨_, rfl⟩
    rw [← hP] at c1 c4 c3
    have hnI : (rest.length % 9 : Nat) = 0 ∨ ¬ (rest.length % 9 : Nat) = 0 := by omega
    rcases hnI with h9 | h9
    · rw [if_pos h9] at hn
      subst hn
      have q : ((rest.length % 9 : Nat) : Int) = 0 := by omega
      have e2' : vssub (strV rest) none (some (VI 9)) = some (strV (rest.take 9)) := e2
      have e3' : vssub (strV rest) (some (VI 9)) none = some (strV (rest.drop 9)) := e3
      simp only [impl_readNat_b2, g0, g4, e1', slen_str, er, q, e2', hp, VX, Nat.reduceEqDiff, Nat.reduceAdd]
      refine readNat_b1 (n := 9) (by decide) ?_ ?_ ?_ fun ρ1 k1 q9 => ?_
      · simp only [VX, Nat.reduceEqDiff, Nat.reduceAdd]; rfl
      · simp only [VX, Nat.reduceEqDiff, Nat.reduceAdd]
      · simp only [VX, Nat.reduceEqDiff, Nat.reduceAdd]
      rw [← hP] at q9
      have u0 : ρ1 0 = strV rest := by rw [k1 0 (by decide)]; simp only [g0, VX, Nat.reduceEqDiff, Nat.reduceAdd]
      have u4 : ρ1 4 = v4 := by rw [k1 4 (by decide)]; simp only [g4, VX, Nat.reduceEqDiff, Nat.reduceAdd]
      have u6 : ρ1 6 = VI 9 := by rw [k1 6 (by decide)]; simp only [VX, Nat.reduceEqDiff, Nat.reduceAdd]
      have u7 : ρ1 7 = VK .u64 (decV (rest.take 9)) := by rw [k1 7 (by decide)]; simp only [VX, Nat.reduceEqDiff, Nat.reduceAdd]
      simp only [u0, u4, u6, u7, q9, c1, c2, c3, c4, e3', VX, Nat.reduceEqDiff, Nat.reduceAdd]
      exact ⟨(pre ++ rest.take 9, rest.drop 9), fin.1, hsp.trans fin.2, rfl, .inr rfl⟩
    · rw [if_neg h9] at hn
      rw [← hn] at er
      have q : ¬ (n : Int) = 0 := by omega
      simp only [impl_readNat_b2, g0, g4, e1', slen_str, er, q, e2, hp, VX, Nat.reduceEqDiff, Nat.reduceAdd]
      refine readNat_b1 (n := n) n9 ?_ ?_ ?_ fun ρ1 k1 q9 => ?_
      · simp only [VX, Nat.reduceEqDiff, Nat.reduceAdd]
      · simp only [VX, Nat.reduceEqDiff, Nat.reduceAdd]
      · simp only [VX, Nat.reduceEqDiff, Nat.reduceAdd]
      rw [← hP] at q9
      have u0 : ρ1 0 = strV rest := by rw [k1 0 (by decide)]; simp only [g0, VX, Nat.reduceEqDiff, Nat.reduceAdd]
      have u4 : ρ1 4 = v4 := by rw [k1 4 (by decide)]; simp only [g4, VX, Nat.reduceEqDiff, Nat.reduceAdd]
      have u6 : ρ1 6 = VI n := by rw [k1 6 (by decide)]; simp only [VX, Nat.reduceEqDiff, Nat.reduceAdd]
      have u7 : ρ1 7 = VK .u64 (decV (rest.take n)) := by rw [k1 7 (by decide)]; simp only [VX, Nat.reduceEqDiff, Nat.reduceAdd]
      simp only [u0, u4, u6, u7, q9, c1, c2, c3, c4, e3, VX, Nat.reduceEqDiff, Nat.reduceAdd]
      exact ⟨(pre ++ rest.take n, rest.drop n), fin.1, hsp.trans fin.2, rfl, .inr rfl⟩
set_option maxHeartbeats 2000000 in
theorem impl_readNat_v (l : List UInt8) (hl : l.length ≤ 1000000000000) : TC 130 [strV l] (readR l) := by
  refine TC.walk ⟨true, false⟩ impl_readNat_t rfl (Nat.le_of_ble_eq_true rfl) rfl (readR_res l) ?_
  have e1 := str_eql_nil l
  by_cases he : l = []
  · have hk : natOk l = false := by rw [he]; rfl
    have e1' : pbin .eql (.string ⟨l.toArray⟩) (.string ⟨#[]⟩) = some (.bool true) := by rw [e1, decide_eq_true he]
    unfold readR
    rw [hk]
    simp only [impl_readNat, impl_readNat_c, e1', Bool.false_eq_true, if_false, VX, Nat.reduceEqDiff, Nat.reduceAdd]
    exact fz_tup2 (d := 6) fz_nilD (fz_pure (v := VB false) rfl)
  have hpos : 0 < l.length := List.length_pos_iff.2 he
  by_cases h200 : (200 : Int) < (l.length : Int)
  · have hk : natOk l = false := by
      cases h : natOk l with
      | false => rfl
      | true => have := (natOk_iff.1 h).2.2.1; omega
    unfold readR
    rw [hk]
    simp only [impl_readNat, impl_readNat_c, e1, he, decide_false, slen_str, h200, Bool.false_eq_true, if_false, VX, Nat.reduceEqDiff, Nat.reduceAdd]
    exact fz_tup2 (d := 6) fz_nilD (fz_pure (v := VB false) rfl)
  have e2 := sidx_str0 l hpos
  by_cases hz : (((l.getD 0 0).toNat : Int) = 48 ∧ 1 < (l.length : Int))
  · obtain ⟨hz1, hz2⟩ := hz
    have hk : natOk l = false := by
      cases h : natOk l with
      | false => rfl
      | true =>
        rcases (natOk_iff.1 h).2.2.2 with h1 | h1
        · omega
        · exact absurd (UInt8.toNat_inj.1 (by rw [show (48 : UInt8).toNat = 48 from rfl]; omega)) h1
    unfold readR
    rw [hk]
    simp only [impl_readNat, impl_readNat_c, e1, he, decide_false, slen_str, h200, e2, hz1, hz2, Bool.false_eq_true, if_false, VX, Nat.reduceEqDiff, Nat.reduceAdd]
    exact fz_tup2 (d := 6) fz_nilD (fz_pure (v := VB false) rfl)
  have hlead : l.length = 1 ∨ l.getD 0 0 ≠ 48 := by
    by_cases h1 : l.length = 1
    · exact .inl h1
    · right
      intro h2
      apply hz
      rw [h2]
      exact ⟨rfl, by omega⟩
  have e3 : ∀ lr, vlit lr [.int .u32 0] 0 [] [] = some (.ref 0 0 0 0 0, [.row 0 [] 1 true]) := fun lr => vlit_nil (H := []) (lr := lr) (z := [.int .u32 0]) rfl
  have kN : l.all isDig = true → natOk l = true := fun h => natOk_iff.2 ⟨h, hpos, by omega, hlead⟩
  have kF : l.all isDig = false → natOk l = false := fun h => by unfold natOk; rw [h]; rfl
  have rF : natOk l = false → readR l = .tup [natV 0, VB false] := fun h => by unfold readR; rw [h]; rfl
  have rT : natOk l = true → readR l = .tup [natV (decV l), VB true] := fun h => if_pos h
  by_cases hA : (((l.getD 0 0).toNat : Int) = 48)
  · have hB : ¬ 1 < (l.length : Int) := fun h => hz ⟨hA, h⟩
    simp only [impl_readNat, impl_readNat_c, e1, e3, he, decide_false, slen_str, h200, e2, hA, hB, Bool.false_eq_true, if_false, VX, Nat.reduceEqDiff, Nat.reduceAdd]
    refine readNat_b0 hl ?_ ?_ ?_ (fun hd ρ1 g2 g3 => ?_) fun hd ρ1 k1 => ?_
    · simp only [VX, Nat.reduceEqDiff, Nat.reduceAdd]
    · simp only [VX, Nat.reduceEqDiff, Nat.reduceAdd]
    · simp only [VX, Nat.reduceEqDiff, Nat.reduceAdd]
    · rw [rF (kF hd)]
      simp only [g2, g3, VX, Nat.reduceEqDiff, Nat.reduceAdd]
      exact fz_tup2 (d := 6) fz_nilD (fz_pure (v := VB false) rfl)
    · rw [rT (kN hd)]
      simp only [VX, Nat.reduceEqDiff, Nat.reduceAdd]
      refine readNat_b2 hd (by omega) he ?_ ?_ fun ρ2 g4 => ?_
      · rw [k1 0 (by decide)]; simp only [VX, Nat.reduceEqDiff, Nat.reduceAdd]
      · rw [k1 4 (by decide)]; simp only [VX, Nat.reduceEqDiff, Nat.reduceAdd]
      · simp only [g4, VX, Nat.reduceEqDiff, Nat.reduceAdd]
        exact fz_tup2 (d := 6) (fz_pure (natV_pure _)) (fz_pure (v := VB true) rfl)
  · simp only [impl_readNat, impl_readNat_c, e1, e3, he, decide_false, slen_str, h200, e2, hA, Bool.false_eq_true, if_false, VX, Nat.reduceEqDiff, Nat.reduceAdd]
    refine readNat_b0 hl ?_ ?_ ?_ (fun hd ρ1 g2 g3 => ?_) fun hd ρ1 k1 => ?_
    · simp only [VX, Nat.reduceEqDiff, Nat.reduceAdd]
    · simp only [VX, Nat.reduceEqDiff, Nat.reduceAdd]
    · simp only [VX, Nat.reduceEqDiff, Nat.reduceAdd]
    · rw [rF (kF hd)]
      simp only [g2, g3, VX, Nat.reduceEqDiff, Nat.reduceAdd]
      exact fz_tup2 (d := 6) fz_nilD (fz_pure (v := VB false) rfl)
    · rw [rT (kN hd)]
      simp only [VX, Nat.reduceEqDiff, Nat.reduceAdd]
      refine readNat_b2 hd (by omega) he ?_ ?_ fun ρ2 g4 => ?_
      · rw [k1 0 (by decide)]; simp only [VX, Nat.reduceEqDiff, Nat.reduceAdd]
      · rw [k1 4 (by decide)]; simp only [VX, Nat.reduceEqDiff, Nat.reduceAdd]
      · simp only [g4, VX, Nat.reduceEqDiff, Nat.reduceAdd]
        exact fz_tup2 (d := 6) (fz_pure (natV_pure _)) (fz_pure (v := VB true) rfl)
def rat0 : VV := .agg [VB false, natV 0, natV 0]
def parseV (l : List UInt8) : VV := match parseQ l with
  | some q => .tup [ratV q, VB true]
  | none => .tup [rat0, VB false]
theorem rat0_pure : pureV rat0 = true := by simp [rat0, pureV, pureL, natV_pure, isSc]
theorem rat0_res : resV rat0 = true := by simp [rat0, resV, resL, natV_res, isSc]
theorem parseV_res (l : List UInt8) : resV (parseV l) = true := by
  unfold parseV
  split <;> simp [resV, resL, ratV_res, rat0_res, isSc]
theorem fz_rat0 {d : Nat} {H : VHeap} : fz (d + 2) H (.agg [VB false, .tree [] .nil, .tree [] .nil]) = some rat0 := fz_agg3 (fz_pure (v := VB false) rfl) fz_nilD fz_nilD
theorem ratV_parts {neg : Bool} {t b : Nat} (hb : b ≠ 0) (hg : Nat.gcd t b = 1) (hn : ¬ (neg = true ∧ t = 0)) : ratV (mkRat (sgn neg t) b) = .agg [VB neg, natV t, natV b] := by
  obtain ⟨e1, e2⟩ := mkRat_parts (neg := neg) hb hg
  refine ratV_of ?_ (by rw [e1, sgn_abs]) e2
  rw [e1]
  cases neg with
  | false => unfold sgn; simp
  | true =>
    have : t ≠ 0 := fun h => hn ⟨rfl, h⟩
    unfold sgn
    simp
    omega
theorem parseQ_cut (l : List UInt8) : parseQ l = parseA (isNeg (cutB 47 l).1) (if isNeg (cutB 47 l).1 then (cutB 47 l).1.drop 1 else (cutB 47 l).1) (cutB 47 l).2 := by
  cases l with
  | nil => rfl
  | cons c r =>
    unfold parseQ
    by_cases h47 : c = 47
    · subst h47
      rfl
    · have e : cutB 47 (c :: r) = (c :: (cutB 47 r).1, (cutB 47 r).2) := by rw [cutB, if_neg h47]
      by_cases h45 : c = 45
      · subst h45
        rw [e]
        rfl
      · rw [e, isNeg_cons, isNeg_cons, decide_eq_false h45]
        simp only [Bool.false_eq_true, if_false, e]
theorem cutB_len {c : UInt8} : ∀ {l : List UInt8}, (cutB c l).1.length ≤ l.length ∧ ∀ t, (cutB c l).2 = some t → t.length ≤ l.length := by
  intro l
  cases h : (cutB c l).2 with
  | none => rw [(cutB_none h).2.1]; exact ⟨Nat.le_refl _, fun t ht => by cases ht⟩
  | some r =>
    have := congrArg List.length (cutB_some h).2.1
    rw [List.length_append, List.length_cons] at this
    exact ⟨by omega, fun t ht => by cases ht; omega⟩
theorem natW_zero {n : Nat} : (((digs 4294967296 n).length : Nat) : Int) = 0 ↔ n = 0 := by
  rw [← digs_nil (b := 4294967296) (n := n) (by decide), ← List.length_eq_zero_iff]
  omega
set_option maxRecDepth 100000 in
set_option maxHeartbeats 4000000 in
theorem impl_readRat_v (l : List UInt8) (hl : l.length ≤ 1000000000000) : TC 91 [strV l] (parseV l) := by
  refine TC.walk ⟨true, false⟩ impl_readRat_t rfl (Nat.le_of_ble_eq_true rfl) rfl (parseV_res l) ?_
  have e1 := cut47 l hl
  obtain ⟨l1, l2⟩ := cutB_len (c := 47) (l := l)
  have hq := parseQ_cut l
  unfold parseV
  rw [hq]
  clear hq
  generalize (cutB 47 l).1 = f at *
  generalize (cutB 47 l).2 = s2 at *
  have e2 := cutPrefix45 f
  have ld : (if isNeg f = true then f.drop 1 else f).length ≤ f.length := by split <;> simp
  generalize (if isNeg f = true then f.drop 1 else f) = d at *
  generalize isNeg f = neg at *
  have e3 := impl_readNat_v d (by omega)
  have c1 : TC 101 [.sc (.int .u64 1)] (natV 1) := impl_natOf_v 1 (by decide)
  cases hd : natOk d with
  | false =>
    have hp : parseA neg d s2 = none := if_pos (.inl hd)
    rw [hp]
    unfold readR at e3
    rw [hd, if_neg (by decide)] at e3
    simp only [impl_readRat, impl_readRat_c, e1, e2, e3, vcells_rat, yA6, yA1, yA5, vlen_rdef, yA2, vchk_pdef, yA3, visnil_nil, yA4, vrow_zero, vrow_succ, List.set_cons_zero, List.set_cons_succ, elemOf_one, elemOf_two, vresult, vresAll, vres1, vfill, isAny_sc, isAny_tree, isAny_ref, isAny_agg, isAny_clo, List.take_zero, List.take_succ_cons, List.take_nil, List.drop_zero, List.drop_succ_cons, List.drop_nil, List.append_nil, Nat.reduceLeDiff, Nat.le_refl, vsplice, Nat.reduceLT, Int.toNat_natCast, eq_self, ge_iff_le, Bool.and_eq_true, Nat.reduceSub, VX, Nat.reduceEqDiff, Nat.reduceAdd]
    exact fz_tup2 (d := 6) fz_rat0 (fz_pure (v := VB false) rfl)
  | true =>
    unfold readR at e3
    rw [hd, if_pos rfl] at e3
    by_cases hz : neg = true ∧ decV d = 0
    · have hp : parseA neg d s2 = none := if_pos (.inr hz)
      rw [hp]
      obtain ⟨rfl, hz0⟩ := hz
      rw [hz0] at e3
      have hl0 : (((digs 4294967296 0).length : Nat) : Int) = 0 := natW_zero.2 rfl
      simp only [impl_readRat, impl_readRat_c, e1, e2, e3, len_natV, hl0, vcells_rat, yA6, yA1, yA5, vlen_rdef, yA2, vchk_pdef, yA3, visnil_nil, yA4, vrow_zero, vrow_succ, List.set_cons_zero, List.set_cons_succ, elemOf_one, elemOf_two, vresult, vresAll, vres1, vfill, isAny_sc, isAny_tree, isAny_ref, isAny_agg, isAny_clo, List.take_zero, List.take_succ_cons, List.take_nil, List.drop_zero, List.drop_succ_cons, List.drop_nil, List.append_nil, Nat.reduceLeDiff, Nat.le_refl, vsplice, Nat.reduceLT, Int.toNat_natCast, eq_self, ge_iff_le, Bool.and_eq_true, Nat.reduceSub, VX, Nat.reduceEqDiff, Nat.reduceAdd]
      exact fz_tup2 (d := 6) fz_rat0 (fz_pure (v := VB false) rfl)
    · have hbt := natOk_bl hd
      have hl0 : neg = true → ¬ (((digs 4294967296 (decV d)).length : Nat) : Int) = 0 := fun h h0 => hz ⟨h, natW_zero.1 h0⟩
      cases s2 with
      | none =>
        have hp : parseA neg d none = some (mkRat (sgn neg (decV d)) 1) := if_neg (by rw [hd]; rintro (h | h); exact absurd h (by decide); exact hz h)
        rw [hp]
        simp only []
        rw [ratV_parts (by decide) (Nat.gcd_one_right _) hz]
        cases neg with
        | false =>
          simp only [impl_readRat, impl_readRat_c, e1, e2, e3, c1, Option.isSome_none, Option.getD_none, vcells_rat, isAny_nat, vscal_nat, vcells_nat, yA6, yA1, yA5, vlen_rdef, yA2, vchk_pdef, yA3, visnil_nil, yA4, vrow_zero, vrow_succ, List.set_cons_zero, List.set_cons_succ, elemOf_one, elemOf_two, vresult, vresAll, vres1, vfill, isAny_sc, isAny_tree, isAny_ref, isAny_agg, isAny_clo, List.take_zero, List.take_succ_cons, List.take_nil, List.drop_zero, List.drop_succ_cons, List.drop_nil, List.append_nil, Nat.reduceLeDiff, Nat.le_refl, vsplice, Nat.reduceLT, Int.toNat_natCast, eq_self, ge_iff_le, Bool.and_eq_true, Nat.reduceSub, VX, Nat.reduceEqDiff, Nat.reduceAdd]
          exact fz_tup2 (d := 6) (fz_agg3 (fz_pure (v := VB false) rfl) (fz_pure (natV_pure _)) (fz_pure (natV_pure _))) (fz_pure (v := VB true) rfl)
        | true =>
          have hl0 := hl0 rfl
          simp only [impl_readRat, impl_readRat_c, e1, e2, e3, c1, len_natV, hl0, Option.isSome_none, Option.getD_none, vcells_rat, isAny_nat, vscal_nat, vcells_nat, yA6, yA1, yA5, vlen_rdef, yA2, vchk_pdef, yA3, visnil_nil, yA4, vrow_zero, vrow_succ, List.set_cons_zero, List.set_cons_succ, elemOf_one, elemOf_two, vresult, vresAll, vres1, vfill, isAny_sc, isAny_tree, isAny_ref, isAny_agg, isAny_clo, List.take_zero, List.take_succ_cons, List.take_nil, List.drop_zero, List.drop_succ_cons, List.drop_nil, List.append_nil, Nat.reduceLeDiff, Nat.le_refl, vsplice, Nat.reduceLT, Int.toNat_natCast, eq_self, ge_iff_le, Bool.and_eq_true, Nat.reduceSub, VX, Nat.reduceEqDiff, Nat.reduceAdd]
          exact fz_tup2 (d := 6) (fz_agg3 (fz_pure (v := VB true) rfl) (fz_pure (natV_pure _)) (fz_pure (natV_pure _))) (fz_pure (v := VB true) rfl)
      | some t =>
        have e4 := impl_readNat_v t (by have := l2 t rfl; omega)
        have hp : parseA neg d (some t) = if natOk t = true ∧ 1 < decV t ∧ Nat.gcd (decV d) (decV t) = 1 then some (mkRat (sgn neg (decV d)) (decV t)) else none := if_neg (by rw [hd]; rintro (h | h); exact absurd h (by decide); exact hz h)
        rw [hp]
        cases ht : natOk t with
        | false =>
          rw [if_neg (fun h => absurd h.1 (by decide))]
          unfold readR at e4
          rw [ht, if_neg (by decide)] at e4
          cases neg with
          | false =>
            simp only [impl_readRat, impl_readRat_c, e1, e2, e3, e4, c1, Option.isSome_some, Option.getD_some, vcells_rat, isAny_nat, vscal_nat, vcells_nat, yA6, yA1, yA5, vlen_rdef, yA2, vchk_pdef, yA3, visnil_nil, yA4, vrow_zero, vrow_succ, List.set_cons_zero, List.set_cons_succ, elemOf_one, elemOf_two, vresult, vresAll, vres1, vfill, isAny_sc, isAny_tree, isAny_ref, isAny_agg, isAny_clo, List.take_zero, List.take_succ_cons, List.take_nil, List.drop_zero, List.drop_succ_cons, List.drop_nil, List.append_nil, Nat.reduceLeDiff, Nat.le_refl, vsplice, Nat.reduceLT, Int.toNat_natCast, eq_self, ge_iff_le, Bool.and_eq_true, Nat.reduceSub, VX, Nat.reduceEqDiff, Nat.reduceAdd]
            exact fz_tup2 (d := 6) fz_rat0 (fz_pure (v := VB false) rfl)
          | true =>
            have hl0 := hl0 rfl
            simp only [impl_readRat, impl_readRat_c, e1, e2, e3, e4, c1, len_natV, hl0, Option.isSome_some, Option.getD_some, vcells_rat, isAny_nat, vscal_nat, vcells_nat, yA6, yA1, yA5, vlen_rdef, yA2, vchk_pdef, yA3, visnil_nil, yA4, vrow_zero, vrow_succ, List.set_cons_zero, List.set_cons_succ, elemOf_one, elemOf_two, vresult, vresAll, vres1, vfill, isAny_sc, isAny_tree, isAny_ref, isAny_agg, isAny_clo, List.take_zero, List.take_succ_cons, List.take_nil, List.drop_zero, List.drop_succ_cons, List.drop_nil, List.append_nil, Nat.reduceLeDiff, Nat.le_refl, vsplice, Nat.reduceLT, Int.toNat_natCast, eq_self, ge_iff_le, Bool.and_eq_true, Nat.reduceSub, VX, Nat.reduceEqDiff, Nat.reduceAdd]
            exact fz_tup2 (d := 6) fz_rat0 (fz_pure (v := VB false) rfl)
        | true =>
          have hbb := natOk_bl ht
          unfold readR at e4
          rw [ht, if_pos rfl] at e4
          have c2 := impl_nat_cmp_v (decV t) 1 (capW' (by omega)) (capW' (Nat.le_trans (bl_le (n := 1) (k := 1) (by decide)) (by decide)))
          have c3 := impl_nat_gcd_v (decV d) (decV t) (capW' (by omega)) (capW' (by omega))
          by_cases h1 : cmpI (decV t) 1 ≤ 0
          · have hle : ¬ 1 < decV t := fun h => by unfold cmpI at h1; rw [if_neg (by omega), if_neg (by omega)] at h1; exact absurd h1 (by decide)
            rw [if_neg (fun h => hle h.2.1)]
            cases neg with
            | false =>
              simp only [impl_readRat, impl_readRat_c, e1, e2, e3, e4, c1, c2, h1, Option.isSome_some, Option.getD_some, vcells_rat, isAny_nat, vscal_nat, vcells_nat, yA6, yA1, yA5, vlen_rdef, yA2, vchk_pdef, yA3, visnil_nil, yA4, vrow_zero, vrow_succ, List.set_cons_zero, List.set_cons_succ, elemOf_one, elemOf_two, vresult, vresAll, vres1, vfill, isAny_sc, isAny_tree, isAny_ref, isAny_agg, isAny_clo, List.take_zero, List.take_succ_cons, List.take_nil, List.drop_zero, List.drop_succ_cons, List.drop_nil, List.append_nil, Nat.reduceLeDiff, Nat.le_refl, vsplice, Nat.reduceLT, Int.toNat_natCast, eq_self, ge_iff_le, Bool.and_eq_true, Nat.reduceSub, VX, Nat.reduceEqDiff, Nat.reduceAdd]
              exact fz_tup2 (d := 6) fz_rat0 (fz_pure (v := VB false) rfl)
            | true =>
              have hl0 := hl0 rfl
              simp only [impl_readRat, impl_readRat_c, e1, e2, e3, e4, c1, c2, h1, len_natV, hl0, Option.isSome_some, Option.getD_some, vcells_rat, isAny_nat, vscal_nat, vcells_nat, yA6, yA1, yA5, vlen_rdef, yA2, vchk_pdef, yA3, visnil_nil, yA4, vrow_zero, vrow_succ, List.set_cons_zero, List.set_cons_succ, elemOf_one, elemOf_two, vresult, vresAll, vres1, vfill, isAny_sc, isAny_tree, isAny_ref, isAny_agg, isAny_clo, List.take_zero, List.take_succ_cons, List.take_nil, List.drop_zero, List.drop_succ_cons, List.drop_nil, List.append_nil, Nat.reduceLeDiff, Nat.le_refl, vsplice, Nat.reduceLT, Int.toNat_natCast, eq_self, ge_iff_le, Bool.and_eq_true, Nat.reduceSub, VX, Nat.reduceEqDiff, Nat.reduceAdd]
              exact fz_tup2 (d := 6) fz_rat0 (fz_pure (v := VB false) rfl)
          · have hlt : 1 < decV t := by
              rcases Nat.lt_or_ge 1 (decV t) with h | h
              · exact h
              · exfalso
                apply h1
                unfold cmpI
                split
                · decide
                · rw [if_pos (by omega)]; decide
            have hgl : bl (Nat.gcd (decV d) (decV t)) ≤ 665 := Nat.le_trans (bl_mono (Nat.le_of_dvd (by omega) (Nat.gcd_dvd_right _ _))) hbb
            have c4 := impl_nat_cmp_v (Nat.gcd (decV d) (decV t)) 1 (capW' (by omega)) (capW' (Nat.le_trans (bl_le (n := 1) (k := 1) (by decide)) (by decide)))
            by_cases hg : Nat.gcd (decV d) (decV t) = 1
            · have h4 : cmpI (Nat.gcd (decV d) (decV t)) 1 = 0 := by rw [hg]; rfl
              rw [if_pos ⟨rfl, hlt, hg⟩]
              simp only []
              rw [ratV_parts (by omega) hg hz]
              cases neg with
              | false =>
                simp only [impl_readRat, impl_readRat_c, e1, e2, e3, e4, c1, c2, c3, c4, h1, h4, Option.isSome_some, Option.getD_some, vcells_rat, isAny_nat, vscal_nat, vcells_nat, yA6, yA1, yA5, vlen_rdef, yA2, vchk_pdef, yA3, visnil_nil, yA4, vrow_zero, vrow_succ, List.set_cons_zero, List.set_cons_succ, elemOf_one, elemOf_two, vresult, vresAll, vres1, vfill, isAny_sc, isAny_tree, isAny_ref, isAny_agg, isAny_clo, List.take_zero, List.take_succ_cons, List.take_nil, List.drop_zero, List.drop_succ_cons, List.drop_nil, List.append_nil, Nat.reduceLeDiff, Nat.le_refl, vsplice, Nat.reduceLT, Int.toNat_natCast, eq_self, ge_iff_le, Bool.and_eq_true, Nat.reduceSub, VX, Nat.reduceEqDiff, Nat.reduceAdd]
                exact fz_tup2 (d := 6) (fz_agg3 (fz_pure (v := VB false) rfl) (fz_pure (natV_pure _)) (fz_pure (natV_pure _))) (fz_pure (v := VB true) rfl)
              | true =>
                have hl0 := hl0 rfl
                simp only [impl_readRat, impl_readRat_c, e1, e2, e3, e4, c1, c2, c3, c4, h1, h4, len_natV, hl0, Option.isSome_some, Option.getD_some, vcells_rat, isAny_nat, vscal_nat, vcells_nat, yA6, yA1, yA5, vlen_rdef, yA2, vchk_pdef, yA3, visnil_nil, yA4, vrow_zero, vrow_succ, List.set_cons_zero, List.set_cons_succ, elemOf_one, elemOf_two, vresult, vresAll, vres1, vfill, isAny_sc, isAny_tree, isAny_ref, isAny_agg, isAny_clo, List.take_zero, List.take_succ_cons, List.take_nil, List.drop_zero, List.drop_succ_cons, List.drop_nil, List.append_nil, Nat.reduceLeDiff, Nat.le_refl, vsplice, Nat.reduceLT, Int.toNat_natCast, eq_self, ge_iff_le, Bool.and_eq_true, Nat.reduceSub, VX, Nat.reduceEqDiff, Nat.reduceAdd]
                exact fz_tup2 (d := 6) (fz_agg3 (fz_pure (v := VB true) rfl) (fz_pure (natV_pure _)) (fz_pure (natV_pure _))) (fz_pure (v := VB true) rfl)
            · have h4 : ¬ cmpI (Nat.gcd (decV d) (decV t)) 1 = 0 := by
                unfold cmpI
                split <;> (try split) <;> first | decide | omega
              rw [if_neg (fun h => hg h.2.2)]
              cases neg with
              | false =>
                simp only [impl_readRat, impl_readRat_c, e1, e2, e3, e4, c1, c2, c3, c4, h1, h4, Option.isSome_some, Option.getD_some, vcells_rat, isAny_nat, vscal_nat, vcells_nat, yA6, yA1, yA5, vlen_rdef, yA2, vchk_pdef, yA3, visnil_nil, yA4, vrow_zero, vrow_succ, List.set_cons_zero, List.set_cons_succ, elemOf_one, elemOf_two, vresult, vresAll, vres1, vfill, isAny_sc, isAny_tree, isAny_ref, isAny_agg, isAny_clo, List.take_zero, List.take_succ_cons, List.take_nil, List.drop_zero, List.drop_succ_cons, List.drop_nil, List.append_nil, Nat.reduceLeDiff, Nat.le_refl, vsplice, Nat.reduceLT, Int.toNat_natCast, eq_self, ge_iff_le, Bool.and_eq_true, Nat.reduceSub, VX, Nat.reduceEqDiff, Nat.reduceAdd]
                exact fz_tup2 (d := 6) fz_rat0 (fz_pure (v := VB false) rfl)
              | true =>
                have hl0 := hl0 rfl
                simp only [impl_readRat, impl_readRat_c, e1, e2, e3, e4, c1, c2, c3, c4, h1, h4, len_natV, hl0, Option.isSome_some, Option.getD_some, vcells_rat, isAny_nat, vscal_nat, vcells_nat, yA6, yA1, yA5, vlen_rdef, yA2, vchk_pdef, yA3, visnil_nil, yA4, vrow_zero, vrow_succ, List.set_cons_zero, List.set_cons_succ, elemOf_one, elemOf_two, vresult, vresAll, vres1, vfill, isAny_sc, isAny_tree, isAny_ref, isAny_agg, isAny_clo, List.take_zero, List.take_succ_cons, List.take_nil, List.drop_zero, List.drop_succ_cons, List.drop_nil, List.append_nil, Nat.reduceLeDiff, Nat.le_refl, vsplice, Nat.reduceLT, Int.toNat_natCast, eq_self, ge_iff_le, Bool.and_eq_true, Nat.reduceSub, VX, Nat.reduceEqDiff, Nat.reduceAdd]
                exact fz_tup2 (d := 6) fz_rat0 (fz_pure (v := VB false) rfl)
end Go.PM
/- The program's fractions: those of two texts. -/
namespace Go.PM
open Go.Lib
def valV (l : List UInt8) : VV := match parseQ l with
  | some q => ratV q
  | none => rat0
theorem parseV_some {l : List UInt8} {q : Rat} (h : parseQ l = some q) : parseV l = .tup [ratV q, VB true] := by unfold parseV; rw [h]
theorem parseV_none {l : List UInt8} (h : parseQ l = none) : parseV l = .tup [rat0, VB false] := by unfold parseV; rw [h]
theorem vcells_rat0 : vcells rat0 = [VB false, natV 0, natV 0] := rfl
theorem isAny_rat0 : isAny rat0 = false := rfl
theorem rd_rat00 : rdCells true 3 rat0 0 = some rat0 := rfl
theorem fz_tup3 {d : Nat} {H : VHeap} {u u' v v' w w' : VV} (h1 : fz (d + 1) H u = some u') (h2 : fz (d + 1) H v = some v') (h3 : fz (d + 1) H w = some w') : fz (d + 2) H (.tup [u, v, w]) = some (.tup [u', v', w']) := by
  have e : fz (d + 2) H (.tup [u, v, w]) = if pureV (.tup [u, v, w]) = true then some (.tup [u, v, w]) else ([u, v, w].mapM (fz (d + 1) H)).map .tup := rfl
  rw [e]
  split
  · rename_i h
    simp only [pureV, pureL, Bool.and_eq_true, Bool.and_true] at h
    rw [fz_pure h.1] at h1
    rw [fz_pure h.2.1] at h2
    rw [fz_pure h.2.2] at h3
    cases h1
    cases h2
    cases h3
    rfl
  · rw [List.mapM_cons, h1, List.mapM_cons, h2, List.mapM_cons, h3]
    rfl
def opQ (f : Rat → Rat → Rat) (a b : List UInt8) : VV := match parseQ a, parseQ b with
  | some x, some y => toldQ (f x y)
  | _, _ => .tup [strV [], VB false]
theorem opQ_res (f : Rat → Rat → Rat) (a b : List UInt8) : resV (opQ f a b) = true := by
  unfold opQ
  split
  · exact toldQ_res _
  · rfl
theorem toldQ_is (q : Rat) : toldQ q = .tup [(if fitsQ q = true then strV (showQ q) else strV []), VB (fitsQ q)] := by
  unfold toldQ
  cases h : fitsQ q with
  | true => simp
  | false => simp
theorem toldQ_tup (q : Rat) : ∃ s k, toldQ q = .tup [strV s, VB k] := by
  unfold toldQ
  split <;> exact ⟨_, _, rfl⟩
theorem opQ_tup (f : Rat → Rat → Rat) (a b : List UInt8) : ∃ s k, opQ f a b = .tup [strV s, VB k] := by
  unfold opQ
  split
  · exact toldQ_tup _
  · exact ⟨_, _, rfl⟩
theorem impl_IsFraction_v (l : List UInt8) (hl : l.length ≤ 1000000000000) : TC 36 [strV l] (VB (parseQ l).isSome) := by
  refine TC.walk ⟨true, false⟩ impl_IsFraction_t rfl (Nat.le_of_ble_eq_true rfl) rfl rfl ?_
  have e1 := impl_readRat_v l hl
  cases h : parseQ l with
  | none =>
    rw [parseV_none h] at e1
    simp only [impl_IsFraction, impl_IsFraction_c, e1, Option.isSome_none, vcells_rat0, isAny_rat0, rd_rat00, vscal_nat, isAny_nat, vcells_nat, yA6, yA1, yA5, vlen_rdef, yA2, vchk_pdef, yA3, visnil_nil, yA4, vrow_zero, vrow_succ, List.set_cons_zero, List.set_cons_succ, elemOf_one, elemOf_two, vresult, vresAll, vres1, vfill, isAny_sc, isAny_tree, isAny_ref, isAny_agg, isAny_clo, List.take_zero, List.take_succ_cons, List.take_nil, List.drop_zero, List.drop_succ_cons, List.drop_nil, List.append_nil, Nat.reduceLeDiff, Nat.le_refl, vsplice, Nat.reduceLT, Int.toNat_natCast, eq_self, ge_iff_le, Bool.and_eq_true, Nat.reduceSub, VX, Nat.reduceEqDiff, Nat.reduceAdd]
    exact fz_res rfl
  | some q =>
    rw [parseV_some h] at e1
    simp only [impl_IsFraction, impl_IsFraction_c, e1, Option.isSome_some, vcells_rat, isAny_rat, rd_rat, vscal_nat, isAny_nat, vcells_nat, yA6, yA1, yA5, vlen_rdef, yA2, vchk_pdef, yA3, visnil_nil, yA4, vrow_zero, vrow_succ, List.set_cons_zero, List.set_cons_succ, elemOf_one, elemOf_two, vresult, vresAll, vres1, vfill, isAny_sc, isAny_tree, isAny_ref, isAny_agg, isAny_clo, List.take_zero, List.take_succ_cons, List.take_nil, List.drop_zero, List.drop_succ_cons, List.drop_nil, List.append_nil, Nat.reduceLeDiff, Nat.le_refl, vsplice, Nat.reduceLT, Int.toNat_natCast, eq_self, ge_iff_le, Bool.and_eq_true, Nat.reduceSub, VX, Nat.reduceEqDiff, Nat.reduceAdd]
    exact fz_res rfl
def twoV (a b : List UInt8) : VV := .tup [valV a, valV b, VB ((parseQ a).isSome && (parseQ b).isSome)]
theorem twoV_res (a b : List UInt8) : resV (twoV a b) = true := by
  unfold twoV valV
  split <;> split <;> simp [resV, resL, ratV_res, rat0_res, isSc]
theorem impl_two_v (a b : List UInt8) (ha : a.length ≤ 1000000000000) (hb : b.length ≤ 1000000000000) : TC 89 [strV a, strV b] (twoV a b) := by
  refine TC.walk ⟨true, false⟩ impl_two_t rfl (Nat.le_of_ble_eq_true rfl) rfl (twoV_res a b) ?_
  have e1 := impl_readRat_v a ha
  have e2 := impl_readRat_v b hb
  unfold twoV valV
  cases h1 : parseQ a with
  | none =>
    rw [parseV_none h1] at e1
    cases h2 : parseQ b with
    | none =>
      rw [parseV_none h2] at e2
      simp only [impl_two, impl_two_c, e1, e2, Option.isSome_none, Bool.and_self, vcells_rat0, isAny_rat0, rd_rat00, vscal_nat, isAny_nat, vcells_nat, yA6, yA1, yA5, vlen_rdef, yA2, vchk_pdef, yA3, visnil_nil, yA4, vrow_zero, vrow_succ, List.set_cons_zero, List.set_cons_succ, elemOf_one, elemOf_two, vresult, vresAll, vres1, vfill, isAny_sc, isAny_tree, isAny_ref, isAny_agg, isAny_clo, List.take_zero, List.take_succ_cons, List.take_nil, List.drop_zero, List.drop_succ_cons, List.drop_nil, List.append_nil, Nat.reduceLeDiff, Nat.le_refl, vsplice, Nat.reduceLT, Int.toNat_natCast, eq_self, ge_iff_le, Bool.and_eq_true, Nat.reduceSub, VS_cf, vrow_stale, n_ne_succ, vkeeps, vkoff, vblk, bne_iff_ne, ne_eq, not_false_eq_true, not_true_eq_false, VX, Nat.reduceEqDiff, Nat.reduceAdd]
      exact fz_tup3 (d := 6) (fz_pure rat0_pure) (fz_pure rat0_pure) (fz_pure (v := VB false) rfl)
    | some y =>
      rw [parseV_some h2] at e2
      simp only [impl_two, impl_two_c, e1, e2, Option.isSome_none, Option.isSome_some, Bool.false_and, vcells_rat, isAny_rat, rd_rat, vcells_rat0, isAny_rat0, rd_rat00, vscal_nat, isAny_nat, vcells_nat, yA6, yA1, yA5, vlen_rdef, yA2, vchk_pdef, yA3, visnil_nil, yA4, vrow_zero, vrow_succ, List.set_cons_zero, List.set_cons_succ, elemOf_one, elemOf_two, vresult, vresAll, vres1, vfill, isAny_sc, isAny_tree, isAny_ref, isAny_agg, isAny_clo, List.take_zero, List.take_succ_cons, List.take_nil, List.drop_zero, List.drop_succ_cons, List.drop_nil, List.append_nil, Nat.reduceLeDiff, Nat.le_refl, vsplice, Nat.reduceLT, Int.toNat_natCast, eq_self, ge_iff_le, Bool.and_eq_true, Nat.reduceSub, VS_cf, vrow_stale, n_ne_succ, vkeeps, vkoff, vblk, bne_iff_ne, ne_eq, not_false_eq_true, not_true_eq_false, VX, Nat.reduceEqDiff, Nat.reduceAdd]
      exact fz_tup3 (d := 6) (fz_pure rat0_pure) (fz_pure (ratV_pure _)) (fz_pure (v := VB false) rfl)
  | some x =>
    rw [parseV_some h1] at e1
    cases h2 : parseQ b with
    | none =>
      rw [parseV_none h2] at e2
      simp only [impl_two, impl_two_c, e1, e2, Option.isSome_none, Option.isSome_some, Bool.and_false, vcells_rat, isAny_rat, rd_rat, vcells_rat0, isAny_rat0, rd_rat00, vscal_nat, isAny_nat, vcells_nat, yA6, yA1, yA5, vlen_rdef, yA2, vchk_pdef, yA3, visnil_nil, yA4, vrow_zero, vrow_succ, List.set_cons_zero, List.set_cons_succ, elemOf_one, elemOf_two, vresult, vresAll, vres1, vfill, isAny_sc, isAny_tree, isAny_ref, isAny_agg, isAny_clo, List.take_zero, List.take_succ_cons, List.take_nil, List.drop_zero, List.drop_succ_cons, List.drop_nil, List.append_nil, Nat.reduceLeDiff, Nat.le_refl, vsplice, Nat.reduceLT, Int.toNat_natCast, eq_self, ge_iff_le, Bool.and_eq_true, Nat.reduceSub, VS_cf, vrow_stale, n_ne_succ, vkeeps, vkoff, vblk, bne_iff_ne, ne_eq, not_false_eq_true, not_true_eq_false, VX, Nat.reduceEqDiff, Nat.reduceAdd]
      exact fz_tup3 (d := 6) (fz_pure (ratV_pure _)) (fz_pure rat0_pure) (fz_pure (v := VB false) rfl)
    | some y =>
      rw [parseV_some h2] at e2
      simp only [impl_two, impl_two_c, e1, e2, Option.isSome_some, Bool.and_self, vcells_rat, isAny_rat, rd_rat, vscal_nat, isAny_nat, vcells_nat, yA6, yA1, yA5, vlen_rdef, yA2, vchk_pdef, yA3, visnil_nil, yA4, vrow_zero, vrow_succ, List.set_cons_zero, List.set_cons_succ, elemOf_one, elemOf_two, vresult, vresAll, vres1, vfill, isAny_sc, isAny_tree, isAny_ref, isAny_agg, isAny_clo, List.take_zero, List.take_succ_cons, List.take_nil, List.drop_zero, List.drop_succ_cons, List.drop_nil, List.append_nil, Nat.reduceLeDiff, Nat.le_refl, vsplice, Nat.reduceLT, Int.toNat_natCast, eq_self, ge_iff_le, Bool.and_eq_true, Nat.reduceSub, VS_cf, vrow_stale, n_ne_succ, vkeeps, vkoff, vblk, bne_iff_ne, ne_eq, not_false_eq_true, not_true_eq_false, VX, Nat.reduceEqDiff, Nat.reduceAdd]
      exact fz_tup3 (d := 6) (fz_pure (ratV_pure _)) (fz_pure (ratV_pure _)) (fz_pure (v := VB true) rfl)
end Go.PM
/- The program's fractions: sums, differences, products, quotients, powers of texts. -/
namespace Go.PM
open Go.Lib
theorem twoV_some {a b : List UInt8} {x y : Rat} (h1 : parseQ a = some x) (h2 : parseQ b = some y) : twoV a b = .tup [ratV x, ratV y, VB true] := by unfold twoV valV; rw [h1, h2]; rfl
theorem twoV_none {a b : List UInt8} (h : parseQ a = none ∨ parseQ b = none) : ∃ u v : VV, twoV a b = .tup [u, v, VB false] ∧ ((∃ x, u = ratV x) ∨ u = rat0) ∧ ((∃ x, v = ratV x) ∨ v = rat0) := by
  refine ⟨valV a, valV b, ?_, ?_, ?_⟩
  · unfold twoV
    rcases h with h | h
    · rw [h]; rfl
    · rw [h, Option.isSome_none, Bool.and_false]
  · unfold valV
    split
    · exact .inl ⟨_, rfl⟩
    · exact .inr rfl
  · unfold valV
    split
    · exact .inl ⟨_, rfl⟩
    · exact .inr rfl
theorem opQ_some {f : Rat → Rat → Rat} {a b : List UInt8} {x y : Rat} (h1 : parseQ a = some x) (h2 : parseQ b = some y) : opQ f a b = toldQ (f x y) := by unfold opQ; rw [h1, h2]
theorem opQ_none {f : Rat → Rat → Rat} {a b : List UInt8} (h : parseQ a = none ∨ parseQ b = none) : opQ f a b = .tup [strV [], VB false] := by
  unfold opQ
  rcases h with h | h
  · rw [h]
  · rw [h]
    cases parseQ a <;> rfl
theorem both_or {a b : List UInt8} : (∃ x y, parseQ a = some x ∧ parseQ b = some y) ∨ (parseQ a = none ∨ parseQ b = none) := by
  cases h1 : parseQ a with
  | none => exact .inr (.inl rfl)
  | some x =>
    cases h2 : parseQ b with
    | none => exact .inr (.inr rfl)
    | some y => exact .inl ⟨x, y, rfl, rfl⟩
set_option maxHeartbeats 1000000 in
theorem impl_withTwo_v (f : Nat) (op : Rat → Rat → Rat) (a b : List UInt8) (ha : a.length ≤ 1000000000000) (hb : b.length ≤ 1000000000000)
    (hf : ∀ x y, parseQ a = some x → parseQ b = some y → TC f [ratV x, ratV y] (ratV (op x y)) ∧ rbits (op x y) ≤ 1099511627776) : TC 88 [strV a, strV b, .clo f []] (opQ op a b) := by
  refine TC.walk ⟨true, false⟩ impl_withTwo_t rfl (Nat.le_of_ble_eq_true rfl) rfl (opQ_res _ _ _) ?_
  have e1 := impl_two_v a b ha hb
  rcases both_or (a := a) (b := b) with ⟨x, y, h1, h2⟩ | h
  · obtain ⟨f1, f2⟩ := hf x y h1 h2
    rw [twoV_some h1 h2] at e1
    rw [opQ_some h1 h2]
    have e2 := impl_told_v (op x y) f2
    rw [toldQ_is] at e2 ⊢
    simp only [impl_withTwo, impl_withTwo_c, e1, e2, f1, vcallv_clo, List.append_nil, vcells_rat, isAny_rat, rd_rat, vscal_nat, isAny_nat, vcells_nat, yA6, yA1, yA5, vlen_rdef, yA2, vchk_pdef, yA3, visnil_nil, yA4, vrow_zero, vrow_succ, List.set_cons_zero, List.set_cons_succ, elemOf_one, elemOf_two, vresult, vresAll, vres1, vfill, isAny_sc, isAny_tree, isAny_ref, isAny_agg, isAny_clo, List.take_zero, List.take_succ_cons, List.take_nil, List.drop_zero, List.drop_succ_cons, List.drop_nil, List.append_nil, Nat.reduceLeDiff, Nat.le_refl, vsplice, Nat.reduceLT, Int.toNat_natCast, eq_self, ge_iff_le, Bool.and_eq_true, Nat.reduceSub, VS_cf, vrow_stale, n_ne_succ, vkeeps, vkoff, vblk, bne_iff_ne, ne_eq, not_false_eq_true, not_true_eq_false, VX, Nat.reduceEqDiff, Nat.reduceAdd]
    exact fz_res (by split <;> rfl)
  · obtain ⟨u, v, h2, h3, h4⟩ := twoV_none h
    rw [h2] at e1
    rw [opQ_none h]
    rcases h3 with ⟨x, rfl⟩ | rfl <;> rcases h4 with ⟨y, rfl⟩ | rfl
    all_goals
      simp only [impl_withTwo, impl_withTwo_c, e1, vcells_rat, isAny_rat, rd_rat, vcells_rat0, isAny_rat0, rd_rat00, vscal_nat, isAny_nat, vcells_nat, yA6, yA1, yA5, vlen_rdef, yA2, vchk_pdef, yA3, visnil_nil, yA4, vrow_zero, vrow_succ, List.set_cons_zero, List.set_cons_succ, elemOf_one, elemOf_two, vresult, vresAll, vres1, vfill, isAny_sc, isAny_tree, isAny_ref, isAny_agg, isAny_clo, List.take_zero, List.take_succ_cons, List.take_nil, List.drop_zero, List.drop_succ_cons, List.drop_nil, List.append_nil, Nat.reduceLeDiff, Nat.le_refl, vsplice, Nat.reduceLT, Int.toNat_natCast, eq_self, ge_iff_le, Bool.and_eq_true, Nat.reduceSub, VS_cf, vrow_stale, n_ne_succ, vkeeps, vkoff, vblk, bne_iff_ne, ne_eq, not_false_eq_true, not_true_eq_false, VX, Nat.reduceEqDiff, Nat.reduceAdd]
      exact fz_res rfl
theorem impl_AddFractions_v (a b : List UInt8) (ha : a.length ≤ 1000000000000) (hb : b.length ≤ 1000000000000) : TC 32 [strV a, strV b] (opQ (· + ·) a b) := by
  refine TC.walk ⟨true, false⟩ impl_AddFractions_t rfl (Nat.le_of_ble_eq_true rfl) rfl (opQ_res _ _ _) ?_
  have e1 := impl_withTwo_v 65 (· + ·) a b ha hb fun x y hx hy => ⟨impl_rat_add_v x y (by have := parse_bits hx; omega) (by have := parse_bits hy; omega), by have := rbits_add x y; have := parse_bits hx; have := parse_bits hy; omega⟩
  obtain ⟨s, k, h⟩ := opQ_tup (· + ·) a b
  rw [h] at e1 ⊢
  simp only [impl_AddFractions, impl_AddFractions_c, e1, VX, Nat.reduceEqDiff, Nat.reduceAdd]
  exact fz_res rfl
theorem impl_LessFraction_v (a b : List UInt8) (ha : a.length ≤ 1000000000000) (hb : b.length ≤ 1000000000000) : TC 33 [strV a, strV b] (opQ (· - ·) a b) := by
  refine TC.walk ⟨true, false⟩ impl_LessFraction_t rfl (Nat.le_of_ble_eq_true rfl) rfl (opQ_res _ _ _) ?_
  have e1 := impl_withTwo_v 63 (· - ·) a b ha hb fun x y hx hy => ⟨impl_rat_sub_v x y (by have := parse_bits hx; omega) (by have := parse_bits hy; omega), by have := rbits_sub x y; have := parse_bits hx; have := parse_bits hy; omega⟩
  obtain ⟨s, k, h⟩ := opQ_tup (· - ·) a b
  rw [h] at e1 ⊢
  simp only [impl_LessFraction, impl_LessFraction_c, e1, VX, Nat.reduceEqDiff, Nat.reduceAdd]
  exact fz_res rfl
theorem impl_TimesFractions_v (a b : List UInt8) (ha : a.length ≤ 1000000000000) (hb : b.length ≤ 1000000000000) : TC 34 [strV a, strV b] (opQ (· * ·) a b) := by
  refine TC.walk ⟨true, false⟩ impl_TimesFractions_t rfl (Nat.le_of_ble_eq_true rfl) rfl (opQ_res _ _ _) ?_
  have e1 := impl_withTwo_v 66 (· * ·) a b ha hb fun x y hx hy => ⟨impl_rat_mul_v x y (by have := parse_bits hx; omega) (by have := parse_bits hy; omega), by have := rbits_mul x y; have := parse_bits hx; have := parse_bits hy; omega⟩
  obtain ⟨s, k, h⟩ := opQ_tup (· * ·) a b
  rw [h] at e1 ⊢
  simp only [impl_TimesFractions, impl_TimesFractions_c, e1, VX, Nat.reduceEqDiff, Nat.reduceAdd]
  exact fz_res rfl
def divQ (a b : List UInt8) : VV := if parseQ b = some 0 then .tup [strV [], VB false] else opQ (· / ·) a b
theorem divQ_res (a b : List UInt8) : resV (divQ a b) = true := by
  unfold divQ
  split
  · rfl
  · exact opQ_res _ _ _
theorem signQ_zero' {q : Rat} : signQ q = 0 ↔ q = 0 := by
  rw [← Rat.num_eq_zero]
  rcases Int.lt_trichotomy q.num 0 with h | h | h
  · rw [signQ_n h]; omega
  · rw [signQ_z h]; simp [h]
  · rw [signQ_p h]; omega
theorem impl_OverFraction_v (a b : List UInt8) (ha : a.length ≤ 1000000000000) (hb : b.length ≤ 1000000000000) : TC 37 [strV a, strV b] (divQ a b) := by
  refine TC.walk ⟨true, false⟩ impl_OverFraction_t rfl (Nat.le_of_ble_eq_true rfl) rfl (divQ_res _ _) ?_
  have e0 := impl_readRat_v b hb
  unfold divQ
  cases h : parseQ b with
  | none =>
    rw [parseV_none h] at e0
    rw [if_neg (by simp), opQ_none (.inr h)]
    simp only [impl_OverFraction, impl_OverFraction_c, e0, vcells_rat0, isAny_rat0, rd_rat00, vscal_nat, isAny_nat, vcells_nat, yA6, yA1, yA5, vlen_rdef, yA2, vchk_pdef, yA3, visnil_nil, yA4, vrow_zero, vrow_succ, List.set_cons_zero, List.set_cons_succ, elemOf_one, elemOf_two, vresult, vresAll, vres1, vfill, isAny_sc, isAny_tree, isAny_ref, isAny_agg, isAny_clo, List.take_zero, List.take_succ_cons, List.take_nil, List.drop_zero, List.drop_succ_cons, List.drop_nil, List.append_nil, Nat.reduceLeDiff, Nat.le_refl, vsplice, Nat.reduceLT, Int.toNat_natCast, eq_self, ge_iff_le, Bool.and_eq_true, Nat.reduceSub, VX, Nat.reduceEqDiff, Nat.reduceAdd]
    exact fz_res rfl
  | some y =>
    rw [parseV_some h] at e0
    have e2 := impl_rat_sign_v y
    by_cases hy : y = 0
    · rw [if_pos (by rw [hy])]
      have hz : signQ y = 0 := signQ_zero'.2 hy
      simp only [impl_OverFraction, impl_OverFraction_c, e0, e2, hz, vcells_rat, isAny_rat, rd_rat, vscal_nat, isAny_nat, vcells_nat, yA6, yA1, yA5, vlen_rdef, yA2, vchk_pdef, yA3, visnil_nil, yA4, vrow_zero, vrow_succ, List.set_cons_zero, List.set_cons_succ, elemOf_one, elemOf_two, vresult, vresAll, vres1, vfill, isAny_sc, isAny_tree, isAny_ref, isAny_agg, isAny_clo, List.take_zero, List.take_succ_cons, List.take_nil, List.drop_zero, List.drop_succ_cons, List.drop_nil, List.append_nil, Nat.reduceLeDiff, Nat.le_refl, vsplice, Nat.reduceLT, Int.toNat_natCast, eq_self, ge_iff_le, Bool.and_eq_true, Nat.reduceSub, VX, Nat.reduceEqDiff, Nat.reduceAdd]
      exact fz_res rfl
    · rw [if_neg (by simpa using hy)]
      have hz : ¬ signQ y = 0 := fun h => hy (signQ_zero'.1 h)
      have e1 := impl_withTwo_v 64 (· / ·) a b ha hb fun x z hx hz => by
        rw [h] at hz
        cases hz
        exact ⟨impl_rat_over_v x y hy (by have := parse_bits hx; omega) (by have := parse_bits h; omega), by have := rbits_div x y; have := parse_bits hx; have := parse_bits h; omega⟩
      obtain ⟨s, k, hs⟩ := opQ_tup (· / ·) a b
      rw [hs] at e1 ⊢
      simp only [impl_OverFraction, impl_OverFraction_c, e0, e1, e2, hz, vcells_rat, isAny_rat, rd_rat, vscal_nat, isAny_nat, vcells_nat, yA6, yA1, yA5, vlen_rdef, yA2, vchk_pdef, yA3, visnil_nil, yA4, vrow_zero, vrow_succ, List.set_cons_zero, List.set_cons_succ, elemOf_one, elemOf_two, vresult, vresAll, vres1, vfill, isAny_sc, isAny_tree, isAny_ref, isAny_agg, isAny_clo, List.take_zero, List.take_succ_cons, List.take_nil, List.drop_zero, List.drop_succ_cons, List.drop_nil, List.append_nil, Nat.reduceLeDiff, Nat.le_refl, vsplice, Nat.reduceLT, Int.toNat_natCast, eq_self, ge_iff_le, Bool.and_eq_true, Nat.reduceSub, VX, Nat.reduceEqDiff, Nat.reduceAdd]
      exact fz_res rfl
def cmpV (a b : List UInt8) : VV := match parseQ a, parseQ b with
  | some x, some y => .tup [VI (compQ x y), VB true]
  | _, _ => .tup [VI 0, VB false]
theorem cmpV_res (a b : List UInt8) : resV (cmpV a b) = true := by
  unfold cmpV
  split <;> rfl
theorem cmpV_some {a b : List UInt8} {x y : Rat} (h1 : parseQ a = some x) (h2 : parseQ b = some y) : cmpV a b = .tup [VI (compQ x y), VB true] := by unfold cmpV; rw [h1, h2]
theorem cmpV_none {a b : List UInt8} (h : parseQ a = none ∨ parseQ b = none) : cmpV a b = .tup [VI 0, VB false] := by
  unfold cmpV
  rcases h with h | h
  · rw [h]
  · rw [h]
    cases parseQ a <;> rfl
theorem impl_CompareFractions_v (a b : List UInt8) (ha : a.length ≤ 1000000000000) (hb : b.length ≤ 1000000000000) : TC 35 [strV a, strV b] (cmpV a b) := by
  refine TC.walk ⟨true, false⟩ impl_CompareFractions_t rfl (Nat.le_of_ble_eq_true rfl) rfl (cmpV_res _ _) ?_
  have e1 := impl_two_v a b ha hb
  rcases both_or (a := a) (b := b) with ⟨x, y, h1, h2⟩ | h
  · rw [twoV_some h1 h2] at e1
    rw [cmpV_some h1 h2]
    have e2 := impl_rat_compared_v x y (by have := parse_bits h1; omega) (by have := parse_bits h2; omega)
    simp only [impl_CompareFractions, impl_CompareFractions_c, e1, e2, vcells_rat, isAny_rat, rd_rat, vscal_nat, isAny_nat, vcells_nat, yA6, yA1, yA5, vlen_rdef, yA2, vchk_pdef, yA3, visnil_nil, yA4, vrow_zero, vrow_succ, List.set_cons_zero, List.set_cons_succ, elemOf_one, elemOf_two, vresult, vresAll, vres1, vfill, isAny_sc, isAny_tree, isAny_ref, isAny_agg, isAny_clo, List.take_zero, List.take_succ_cons, List.take_nil, List.drop_zero, List.drop_succ_cons, List.drop_nil, List.append_nil, Nat.reduceLeDiff, Nat.le_refl, vsplice, Nat.reduceLT, Int.toNat_natCast, eq_self, ge_iff_le, Bool.and_eq_true, Nat.reduceSub, VS_cf, vrow_stale, n_ne_succ, vkeeps, vkoff, vblk, bne_iff_ne, ne_eq, not_false_eq_true, not_true_eq_false, VX, Nat.reduceEqDiff, Nat.reduceAdd]
    exact fz_res rfl
  · obtain ⟨u, v, h2, h3, h4⟩ := twoV_none h
    rw [h2] at e1
    rw [cmpV_none h]
    rcases h3 with ⟨x, rfl⟩ | rfl <;> rcases h4 with ⟨y, rfl⟩ | rfl
    all_goals
      simp only [impl_CompareFractions, impl_CompareFractions_c, e1, vcells_rat, isAny_rat, rd_rat, vcells_rat0, isAny_rat0, rd_rat00, vscal_nat, isAny_nat, vcells_nat, yA6, yA1, yA5, vlen_rdef, yA2, vchk_pdef, yA3, visnil_nil, yA4, vrow_zero, vrow_succ, List.set_cons_zero, List.set_cons_succ, elemOf_one, elemOf_two, vresult, vresAll, vres1, vfill, isAny_sc, isAny_tree, isAny_ref, isAny_agg, isAny_clo, List.take_zero, List.take_succ_cons, List.take_nil, List.drop_zero, List.drop_succ_cons, List.drop_nil, List.append_nil, Nat.reduceLeDiff, Nat.le_refl, vsplice, Nat.reduceLT, Int.toNat_natCast, eq_self, ge_iff_le, Bool.and_eq_true, Nat.reduceSub, VS_cf, vrow_stale, n_ne_succ, vkeeps, vkoff, vblk, bne_iff_ne, ne_eq, not_false_eq_true, not_true_eq_false, VX, Nat.reduceEqDiff, Nat.reduceAdd]
      exact fz_res rfl
theorem impl_rat_power_v (q : Rat) (n : Nat) (hn : n ≤ 1000) (hq : rbits q ≤ 100000) : TC 93 [ratV q, VI n] (ratV (q ^ n)) := by
  refine TC.walk ⟨true, false⟩ _impl_rat__power_t rfl (Nat.le_of_ble_eq_true rfl) (by simp only [pureL, ratV_pure]; rfl) (ratV_res _) ?_
  have e1 : TC 61 [VI 1] (ratV 1) := impl_whole_v 1 (by decide) (by decide)
  simp only [_impl_rat__power, _impl_rat__power_c, e1, vcells_rat, isAny_rat, rd_rat, vscal_nat, isAny_nat, vcells_nat, yA6, yA1, yA5, vlen_rdef, yA2, vchk_pdef, yA3, visnil_nil, yA4, vrow_zero, vrow_succ, List.set_cons_zero, List.set_cons_succ, elemOf_one, elemOf_two, vresult, vresAll, vres1, vfill, isAny_sc, isAny_tree, isAny_ref, isAny_agg, isAny_clo, List.take_zero, List.take_succ_cons, List.take_nil, List.drop_zero, List.drop_succ_cons, List.drop_nil, List.append_nil, Nat.reduceLeDiff, Nat.le_refl, vsplice, Nat.reduceLT, Int.toNat_natCast, eq_self, ge_iff_le, Bool.and_eq_true, Nat.reduceSub, VS_cf, vrow_stale, n_ne_succ, vkeeps, vkoff, vblk, bne_iff_ne, ne_eq, not_false_eq_true, not_true_eq_false, VX, Nat.reduceEqDiff, Nat.reduceAdd]
  refine VW_loop (fun (i : Nat) ρ H => i ≤ n ∧ H = [.row 0 [.agg [VB false, .tree [] .nil, .tree [] .nil]] 3 true, .row 0 [ratV (q ^ i)] 3 true] ∧ ρ 2 = (ratV q).tptr 0 ∧ ρ 4 = .ptr 0 0 0 0 ∧ ρ 5 = .ptr 1 0 0 0 ∧ ρ 7 = VI n ∧ ρ 8 = VI i) (fun i => n - i) 0 ⟨Nat.zero_le _, ?_, rfl, rfl, rfl, rfl, rfl⟩ ?_
  · rw [Rat.pow_zero]
  rintro i ρ H ⟨hi, rfl, g2, g4, g5, g7, g8⟩
  by_cases hin : (i : Int) < (n : Int)
  · have wi : IntKind.i64.wrap ((i : Int) + 1) = ((i + 1 : Nat) : Int) := wrapN (i + 1) (by omega) (by omega)
    have hb := rbits_pow q i
    have hb2 : i * rbits q ≤ 1000 * 100000 := Nat.mul_le_mul (by omega) hq
    have e2 := impl_rat_mul_v (q ^ i) q (by omega) (by omega)
    rw [← Rat.pow_succ] at e2
    simp only [_impl_rat__power_b0, g2, g4, g5, g7, g8, hin, e2, wi, vcells_rat, isAny_rat, rd_rat, vscal_nat, isAny_nat, vcells_nat, yA6, yA1, yA5, vlen_rdef, yA2, vchk_pdef, yA3, visnil_nil, yA4, vrow_zero, vrow_succ, List.set_cons_zero, List.set_cons_succ, elemOf_one, elemOf_two, vresult, vresAll, vres1, vfill, isAny_sc, isAny_tree, isAny_ref, isAny_agg, isAny_clo, List.take_zero, List.take_succ_cons, List.take_nil, List.drop_zero, List.drop_succ_cons, List.drop_nil, List.append_nil, Nat.reduceLeDiff, Nat.le_refl, vsplice, Nat.reduceLT, Int.toNat_natCast, eq_self, ge_iff_le, Bool.and_eq_true, Nat.reduceSub, VS_cf, vrow_stale, n_ne_succ, vkeeps, vkoff, vblk, bne_iff_ne, ne_eq, not_false_eq_true, not_true_eq_false, VX, Nat.reduceEqDiff, Nat.reduceAdd]
    exact ⟨i + 1, by omega, by omega, rfl, rfl⟩
  · have hie : i = n := by omega
    subst hie
    simp only [_impl_rat__power_b0, g2, g4, g5, g7, g8, hin, vcells_rat, isAny_rat, rd_rat, vscal_nat, isAny_nat, vcells_nat, yA6, yA1, yA5, vlen_rdef, yA2, vchk_pdef, yA3, visnil_nil, yA4, vrow_zero, vrow_succ, List.set_cons_zero, List.set_cons_succ, elemOf_one, elemOf_two, vresult, vresAll, vres1, vfill, isAny_sc, isAny_tree, isAny_ref, isAny_agg, isAny_clo, List.take_zero, List.take_succ_cons, List.take_nil, List.drop_zero, List.drop_succ_cons, List.drop_nil, List.append_nil, Nat.reduceLeDiff, Nat.le_refl, vsplice, Nat.reduceLT, Int.toNat_natCast, eq_self, ge_iff_le, Bool.and_eq_true, Nat.reduceSub, VS_cf, vrow_stale, n_ne_succ, vkeeps, vkoff, vblk, bne_iff_ne, ne_eq, not_false_eq_true, not_true_eq_false, VX, Nat.reduceEqDiff, Nat.reduceAdd]
    exact fz_res (ratV_pure _)
def powQ (a : List UInt8) (n : Int) : VV := match parseQ a with
  | some x => if 0 ≤ n ∧ n ≤ 100 then toldQ (x ^ n.toNat) else .tup [strV [], VB false]
  | none => .tup [strV [], VB false]
theorem powQ_res (a : List UInt8) (n : Int) : resV (powQ a n) = true := by
  unfold powQ
  split
  · split
    · exact toldQ_res _
    · rfl
  · rfl
theorem impl_PowerOf_v (a : List UInt8) (n : Int) (ha : a.length ≤ 1000000000000) : TC 38 [strV a, VI n] (powQ a n) := by
  refine TC.walk ⟨true, false⟩ impl_PowerOf_t rfl (Nat.le_of_ble_eq_true rfl) rfl (powQ_res a n) ?_
  have e0 := impl_readRat_v a ha
  have e1 := impl_in_v n 0 100
  unfold powQ
  cases h : parseQ a with
  | none =>
    rw [parseV_none h] at e0
    simp only [impl_PowerOf, impl_PowerOf_c, e0, vcells_rat0, isAny_rat0, rd_rat00, vscal_nat, isAny_nat, vcells_nat, yA6, yA1, yA5, vlen_rdef, yA2, vchk_pdef, yA3, visnil_nil, yA4, vrow_zero, vrow_succ, List.set_cons_zero, List.set_cons_succ, elemOf_one, elemOf_two, vresult, vresAll, vres1, vfill, isAny_sc, isAny_tree, isAny_ref, isAny_agg, isAny_clo, List.take_zero, List.take_succ_cons, List.take_nil, List.drop_zero, List.drop_succ_cons, List.drop_nil, List.append_nil, Nat.reduceLeDiff, Nat.le_refl, vsplice, Nat.reduceLT, Int.toNat_natCast, eq_self, ge_iff_le, Bool.and_eq_true, Nat.reduceSub, VX, Nat.reduceEqDiff, Nat.reduceAdd]
    exact fz_res rfl
  | some x =>
    rw [parseV_some h] at e0
    by_cases hn : 0 ≤ n ∧ n ≤ 100
    · have hx := parse_bits h
      obtain ⟨k, rfl⟩ : ∃ k : Nat, n = k := ⟨n.toNat, by omega⟩
      rw [decide_eq_true hn] at e1
      have e2 := impl_rat_power_v x k (by omega) (by omega)
      have hb := rbits_pow x k
      have hb2 : k * rbits x ≤ 100 * 665 := Nat.mul_le_mul (by omega) hx
      have e3 := impl_told_v (x ^ k) (by omega)
      simp only []
      rw [if_pos hn, Int.toNat_natCast]
      rw [toldQ_is] at e3 ⊢
      simp only [impl_PowerOf, impl_PowerOf_c, e0, e1, e2, e3, vcells_rat, isAny_rat, rd_rat, vscal_nat, isAny_nat, vcells_nat, yA6, yA1, yA5, vlen_rdef, yA2, vchk_pdef, yA3, visnil_nil, yA4, vrow_zero, vrow_succ, List.set_cons_zero, List.set_cons_succ, elemOf_one, elemOf_two, vresult, vresAll, vres1, vfill, isAny_sc, isAny_tree, isAny_ref, isAny_agg, isAny_clo, List.take_zero, List.take_succ_cons, List.take_nil, List.drop_zero, List.drop_succ_cons, List.drop_nil, List.append_nil, Nat.reduceLeDiff, Nat.le_refl, vsplice, Nat.reduceLT, Int.toNat_natCast, eq_self, ge_iff_le, Bool.and_eq_true, Nat.reduceSub, VX, Nat.reduceEqDiff, Nat.reduceAdd]
      exact fz_res (by split <;> rfl)
    · rw [decide_eq_false hn] at e1
      simp only []
      rw [if_neg hn]
      simp only [impl_PowerOf, impl_PowerOf_c, e0, e1, vcells_rat, isAny_rat, rd_rat, vscal_nat, isAny_nat, vcells_nat, yA6, yA1, yA5, vlen_rdef, yA2, vchk_pdef, yA3, visnil_nil, yA4, vrow_zero, vrow_succ, List.set_cons_zero, List.set_cons_succ, elemOf_one, elemOf_two, vresult, vresAll, vres1, vfill, isAny_sc, isAny_tree, isAny_ref, isAny_agg, isAny_clo, List.take_zero, List.take_succ_cons, List.take_nil, List.drop_zero, List.drop_succ_cons, List.drop_nil, List.append_nil, Nat.reduceLeDiff, Nat.le_refl, vsplice, Nat.reduceLT, Int.toNat_natCast, eq_self, ge_iff_le, Bool.and_eq_true, Nat.reduceSub, VX, Nat.reduceEqDiff, Nat.reduceAdd]
      exact fz_res rfl
end Go.PM
/- The pure machine's form of functions, as the settings give it: S1. -/
namespace Go.PM
def spec_l01Int_c : PCode := (.seq (.reg [⟨(some 2), (.new [(.bool false), (.slice none 0 0), (.slice none 0 0)]), none, false, []⟩]) (.seq (.seq (.reg [⟨(some 3), (.mv (.tmp 0)), none, false, []⟩, ⟨(some 4), (.bin .lss (.tmp 3) (.const (.int .i64 0))), none, false, []⟩]) (.cond (.tmp 4) (.seq (.reg [⟨(some 5), (.mv (.tmp 0)), none, false, []⟩, ⟨(some 6), (.un .neg (.tmp 5)), none, false, []⟩, ⟨(some 7), (.call 108 [(.tmp 6)]), none, false, []⟩, ⟨(some 8), (.lit [(.int .i64 0)] 1 [(0, (.const (.int .i64 1)))]), none, false, []⟩, ⟨(some 9), (.build [(.bool false), (.slice none 0 0), (.slice none 0 0)] [(0, 1), (1, 1), (2, 1)] [(0, (.const (.bool true))), (1, (.tmp 7)), (2, (.tmp 8))]), none, false, []⟩, ⟨none, (.store 3 (.tmp 2) (.tmp 9)), none, false, []⟩]) .ret) .skip)) (.seq (.reg [⟨(some 10), (.mv (.tmp 0)), none, false, []⟩, ⟨(some 11), (.call 108 [(.tmp 10)]), none, false, []⟩, ⟨(some 12), (.lit [(.int .i64 0)] 1 [(0, (.const (.int .i64 1)))]), none, false, []⟩, ⟨(some 13), (.build [(.bool false), (.slice none 0 0), (.slice none 0 0)] [(0, 1), (1, 1), (2, 1)] [(1, (.tmp 11)), (2, (.tmp 12))]), none, false, []⟩, ⟨none, (.store 3 (.tmp 2) (.tmp 13)), none, false, []⟩]) .ret)))
def spec_l01Int : PFunc := ⟨14, [(.cell 2 true 3)], spec_l01Int_c⟩
theorem spec_l01Int_t : tab 54 = some spec_l01Int := by kernel_rfl
def spec_l01Over_c : PCode := (.seq (.reg [⟨(some 2), (.box (.tmp 0)), none, false, []⟩, ⟨(some 3), (.box (.tmp 1)), none, false, []⟩, ⟨(some 4), (.new [(.bool false), (.slice none 0 0), (.slice none 0 0)]), none, false, []⟩]) (.seq (.reg [⟨(some 5), (.faddr 0 (.tmp 2)), none, false, []⟩, ⟨(some 6), (.load false 1 (.tmp 5)), none, false, []⟩, ⟨(some 7), (.faddr 0 (.tmp 3)), none, false, []⟩, ⟨(some 8), (.load false 1 (.tmp 7)), none, false, []⟩, ⟨(some 9), (.eqb true (.tmp 6) (.tmp 8)), none, false, []⟩, ⟨(some 10), (.faddr 1 (.tmp 2)), none, false, []⟩, ⟨(some 11), (.load false 1 (.tmp 10)), none, false, []⟩, ⟨(some 12), (.faddr 2 (.tmp 3)), none, false, []⟩, ⟨(some 13), (.load false 1 (.tmp 12)), none, false, []⟩, ⟨(some 14), (.call 105 [(.tmp 11), (.tmp 13)]), none, true, []⟩, ⟨(some 15), (.faddr 2 (.tmp 2)), none, false, []⟩, ⟨(some 16), (.load false 1 (.tmp 15)), none, false, []⟩, ⟨(some 17), (.faddr 1 (.tmp 3)), none, false, []⟩, ⟨(some 18), (.load false 1 (.tmp 17)), none, false, []⟩, ⟨(some 19), (.call 105 [(.tmp 16), (.tmp 18)]), none, true, []⟩, ⟨(some 20), (.call 97 [(.tmp 9), (.tmp 14), (.tmp 19)]), none, true, []⟩, ⟨none, (.store 3 (.tmp 4) (.tmp 20)), none, false, []⟩]) .ret))
def spec_l01Over : PFunc := ⟨21, [(.cell 4 true 3)], spec_l01Over_c⟩
theorem spec_l01Over_t : tab 55 = some spec_l01Over := by kernel_rfl
def spec_l01Make_c : PCode := (.seq (.reg [⟨(some 6), (.new [(.bool false), (.slice none 0 0), (.slice none 0 0)]), none, false, []⟩]) (.seq (.reg [⟨(some 8), (.mv (.tmp 1)), none, false, []⟩, ⟨(some 9), (.mv (.tmp 2)), none, false, []⟩, ⟨(some 10), (.call 136 [(.tmp 8), (.tmp 9)]), none, false, []⟩, ⟨(some 7), (.mv (.tmp 10)), none, false, []⟩]) (.seq (.seq (.reg [⟨(some 11), (.mv (.tmp 7)), none, false, []⟩, ⟨(some 12), (.lit [(.int .i64 0)] 1 [(0, (.const (.int .i64 1)))]), none, false, []⟩, ⟨(some 13), (.call 104 [(.tmp 11), (.tmp 12)]), none, false, []⟩, ⟨(some 14), (.bin .neq (.tmp 13) (.const (.int .i64 0))), none, false, []⟩]) (.cond (.tmp 14) (.seq (.reg [⟨(some 16), (.mv (.tmp 1)), none, false, []⟩, ⟨(some 17), (.mv (.tmp 7)), none, false, []⟩, ⟨(some 18), (.call 137 [(.tmp 16), (.tmp 17)]), none, false, []⟩, ⟨(some 15), (.mv (.tmp 18)), none, false, []⟩, ⟨(some 19), (.ext (.tmp 15) 0), none, false, []⟩, ⟨(some 20), (.ext (.tmp 15) 1), none, false, []⟩, ⟨(some 1), (.mv (.tmp 19)), none, false, []⟩]) (.reg [⟨(some 22), (.mv (.tmp 2)), none, false, []⟩, ⟨(some 23), (.mv (.tmp 7)), none, false, []⟩, ⟨(some 24), (.call 137 [(.tmp 22), (.tmp 23)]), none, false, []⟩, ⟨(some 21), (.mv (.tmp 24)), none, false, []⟩, ⟨(some 25), (.ext (.tmp 21) 0), none, false, []⟩, ⟨(some 26), (.ext (.tmp 21) 1), none, false, []⟩, ⟨(some 2), (.mv (.tmp 25)), none, false, []⟩])) .skip)) (.seq (.reg [⟨(some 27), (.mv (.tmp 0)), none, false, []⟩, ⟨(some 28), (.mv (.tmp 27)), none, false, []⟩, ⟨(some 29), (.mv (.tmp 1)), (some (28, true)), false, []⟩, ⟨(some 30), (.len (.tmp 29)), (some (28, true)), false, []⟩, ⟨(some 31), (.bin .gtr (.tmp 30) (.const (.int .i64 0))), (some (28, true)), false, []⟩, ⟨(some 32), (.pick (.tmp 28) (.tmp 31) (.const (.bool false))), none, false, []⟩, ⟨(some 33), (.mv (.tmp 1)), none, false, []⟩, ⟨(some 34), (.mv (.tmp 2)), none, false, []⟩, ⟨(some 35), (.build [(.bool false), (.slice none 0 0), (.slice none 0 0)] [(0, 1), (1, 1), (2, 1)] [(0, (.tmp 32)), (1, (.tmp 33)), (2, (.tmp 34))]), none, false, []⟩, ⟨none, (.store 3 (.tmp 6) (.tmp 35)), none, false, []⟩]) .ret))))
def spec_l01Make : PFunc := ⟨36, [(.cell 6 true 3)], spec_l01Make_c⟩
theorem spec_l01Make_t : tab 97 = some spec_l01Make := by kernel_rfl
def spec_l01Cmp_b0 : PCode := (.seq (.seq (.reg [⟨(some 19), (.mv (.tmp 5)), none, false, []⟩, ⟨(some 20), (.bin .geq (.tmp 19) (.const (.int .i64 0))), none, false, []⟩]) (.cond (.tmp 20) .skip (.exit 0))) (.seq (.block 1 (.seq (.reg [⟨(some 23), (.mv (.tmp 0)), none, false, []⟩, ⟨(some 24), (.mv (.tmp 5)), none, false, []⟩, ⟨(some 25), (.iaddr 1 (.tmp 23) (.tmp 24)), none, false, []⟩, ⟨(some 26), (.load false 1 (.tmp 25)), none, false, []⟩, ⟨(some 27), (.mv (.tmp 1)), none, false, []⟩, ⟨(some 28), (.mv (.tmp 5)), none, false, []⟩, ⟨(some 29), (.iaddr 1 (.tmp 27) (.tmp 28)), none, false, []⟩, ⟨(some 30), (.load false 1 (.tmp 29)), none, false, []⟩, ⟨(some 31), (.bin .neq (.tmp 26) (.tmp 30)), none, false, []⟩]) (.cond (.tmp 31) (.seq (.seq (.reg [⟨(some 32), (.mv (.tmp 0)), none, false, []⟩, ⟨(some 33), (.mv (.tmp 5)), none, false, []⟩, ⟨(some 34), (.iaddr 1 (.tmp 32) (.tmp 33)), none, false, []⟩, ⟨(some 35), (.load false 1 (.tmp 34)), none, false, []⟩, ⟨(some 36), (.mv (.tmp 1)), none, false, []⟩, ⟨(some 37), (.mv (.tmp 5)), none, false, []⟩, ⟨(some 38), (.iaddr 1 (.tmp 36) (.tmp 37)), none, false, []⟩, ⟨(some 39), (.load false 1 (.tmp 38)), none, false, []⟩, ⟨(some 40), (.bin .lss (.tmp 35) (.tmp 39)), none, false, []⟩]) (.cond (.tmp 40) (.seq (.reg [⟨(some 4), (.mv (.const (.int .i64 (-1)))), none, false, []⟩]) .ret) .skip)) (.seq (.reg [⟨(some 4), (.mv (.const (.int .i64 1))), none, false, []⟩]) .ret)) .skip))) (.reg [⟨(some 21), (.mv (.tmp 5)), none, false, []⟩, ⟨(some 22), (.bin .sub (.tmp 21) (.const (.int .i64 1))), none, false, []⟩, ⟨(some 5), (.mv (.tmp 22)), none, false, []⟩])))
def spec_l01Cmp_c : PCode := (.seq (.reg [⟨(some 4), (.mv (.const (.int .i64 0))), none, false, []⟩]) (.seq (.seq (.reg [⟨(some 6), (.mv (.tmp 0)), none, false, []⟩, ⟨(some 7), (.len (.tmp 6)), none, false, []⟩, ⟨(some 8), (.mv (.tmp 1)), none, false, []⟩, ⟨(some 9), (.len (.tmp 8)), none, false, []⟩, ⟨(some 10), (.bin .neq (.tmp 7) (.tmp 9)), none, false, []⟩]) (.cond (.tmp 10) (.seq (.seq (.reg [⟨(some 11), (.mv (.tmp 0)), none, false, []⟩, ⟨(some 12), (.len (.tmp 11)), none, false, []⟩, ⟨(some 13), (.mv (.tmp 1)), none, false, []⟩, ⟨(some 14), (.len (.tmp 13)), none, false, []⟩, ⟨(some 15), (.bin .lss (.tmp 12) (.tmp 14)), none, false, []⟩]) (.cond (.tmp 15) (.seq (.reg [⟨(some 4), (.mv (.const (.int .i64 (-1)))), none, false, []⟩]) .ret) .skip)) (.seq (.reg [⟨(some 4), (.mv (.const (.int .i64 1))), none, false, []⟩]) .ret)) .skip)) (.seq (.seq (.reg [⟨(some 16), (.mv (.tmp 0)), none, false, []⟩, ⟨(some 17), (.len (.tmp 16)), none, false, []⟩, ⟨(some 18), (.bin .sub (.tmp 17) (.const (.int .i64 1))), none, false, []⟩, ⟨(some 5), (.mv (.tmp 18)), none, false, []⟩]) (.block 0 (.loop spec_l01Cmp_b0))) (.seq (.reg [⟨(some 4), (.mv (.const (.int .i64 0))), none, false, []⟩]) .ret))))
def spec_l01Cmp : PFunc := ⟨41, [(.tmp 4)], spec_l01Cmp_c⟩
theorem spec_l01Cmp_t : tab 104 = some spec_l01Cmp := by kernel_rfl
def spec_l01NatMul_b0 : PCode := (.seq (.reg [⟨(some 24), (.bin .lss (.tmp 23) (.tmp 22)), none, false, []⟩]) (.seq (.cond (.tmp 24) .skip (.exit 2)) (.seq (.block 3 (.seq (.reg [⟨(some 25), (.mv (.tmp 23)), none, false, []⟩, ⟨(some 8), (.mv (.tmp 25)), none, false, []⟩]) (.seq (.reg [⟨(some 26), (.mv (.tmp 5)), none, false, []⟩, ⟨(some 27), (.mv (.tmp 6)), none, false, []⟩, ⟨(some 28), (.mv (.tmp 8)), none, false, []⟩, ⟨(some 29), (.bin .add (.tmp 27) (.tmp 28)), none, false, []⟩, ⟨(some 30), (.iaddr 1 (.tmp 26) (.tmp 29)), none, false, []⟩, ⟨(some 31), (.load false 1 (.tmp 30)), none, false, []⟩, ⟨(some 32), (.mv (.tmp 0)), none, false, []⟩, ⟨(some 33), (.mv (.tmp 6)), none, false, []⟩, ⟨(some 34), (.iaddr 1 (.tmp 32) (.tmp 33)), none, false, []⟩, ⟨(some 35), (.load false 1 (.tmp 34)), none, false, []⟩, ⟨(some 36), (.mv (.tmp 1)), none, false, []⟩, ⟨(some 37), (.mv (.tmp 8)), none, false, []⟩, ⟨(some 38), (.iaddr 1 (.tmp 36) (.tmp 37)), none, false, []⟩, ⟨(some 39), (.load false 1 (.tmp 38)), none, false, []⟩, ⟨(some 40), (.bin .mul (.tmp 35) (.tmp 39)), none, false, []⟩, ⟨(some 41), (.bin .add (.tmp 31) (.tmp 40)), none, false, []⟩, ⟨(some 42), (.mv (.tmp 7)), none, false, []⟩, ⟨(some 43), (.bin .add (.tmp 41) (.tmp 42)), none, false, []⟩, ⟨(some 9), (.mv (.tmp 43)), none, false, []⟩]) (.seq (.reg [⟨(some 44), (.mv (.tmp 5)), none, false, []⟩, ⟨(some 45), (.mv (.tmp 6)), none, false, []⟩, ⟨(some 46), (.mv (.tmp 8)), none, false, []⟩, ⟨(some 47), (.bin .add (.tmp 45) (.tmp 46)), none, false, []⟩, ⟨(some 48), (.mv (.tmp 9)), none, false, []⟩, ⟨(some 49), (.bin .rem (.tmp 48) (.const (.int .i64 1000000000))), none, false, []⟩, ⟨(some 50), (.iaddr 1 (.tmp 44) (.tmp 47)), none, false, []⟩, ⟨none, (.store 1 (.tmp 50) (.tmp 49)), none, false, []⟩]) (.reg [⟨(some 51), (.mv (.tmp 9)), none, false, []⟩, ⟨(some 52), (.bin .quo (.tmp 51) (.const (.int .i64 1000000000))), none, false, []⟩, ⟨(some 7), (.mv (.tmp 52)), none, false, []⟩]))))) (.reg [⟨(some 53), (.bin .add (.tmp 23) (.const (.int .i64 1))), none, false, []⟩, ⟨(some 23), (.mv (.tmp 53)), none, false, []⟩]))))
def spec_l01NatMul_b1 : PCode := (.seq (.reg [⟨(some 19), (.bin .lss (.tmp 18) (.tmp 17)), none, false, []⟩]) (.seq (.cond (.tmp 19) .skip (.exit 0)) (.seq (.block 1 (.seq (.reg [⟨(some 20), (.mv (.tmp 18)), none, false, []⟩, ⟨(some 6), (.mv (.tmp 20)), none, false, []⟩]) (.seq (.reg [⟨(some 7), (.mv (.const (.int .i64 0))), none, false, []⟩]) (.seq (.seq (.reg [⟨(some 21), (.mv (.tmp 1)), none, false, []⟩, ⟨(some 22), (.len (.tmp 21)), none, false, []⟩, ⟨(some 23), (.mv (.const (.int .i64 0))), none, false, []⟩]) (.block 2 (.loop spec_l01NatMul_b0))) (.reg [⟨(some 54), (.mv (.tmp 5)), none, false, []⟩, ⟨(some 55), (.mv (.tmp 6)), none, false, []⟩, ⟨(some 56), (.mv (.tmp 1)), none, false, []⟩, ⟨(some 57), (.len (.tmp 56)), none, false, []⟩, ⟨(some 58), (.bin .add (.tmp 55) (.tmp 57)), none, false, []⟩, ⟨(some 59), (.iaddr 1 (.tmp 54) (.tmp 58)), none, false, []⟩, ⟨(some 60), (.load false 1 (.tmp 59)), none, false, []⟩, ⟨(some 61), (.mv (.tmp 7)), none, false, []⟩, ⟨(some 62), (.bin .add (.tmp 60) (.tmp 61)), none, false, []⟩, ⟨(some 63), (.iaddr 1 (.tmp 54) (.tmp 58)), none, false, []⟩, ⟨none, (.store 1 (.tmp 63) (.tmp 62)), none, false, []⟩]))))) (.reg [⟨(some 64), (.bin .add (.tmp 18) (.const (.int .i64 1))), none, false, []⟩, ⟨(some 18), (.mv (.tmp 64)), none, false, []⟩]))))
def spec_l01NatMul_c : PCode := (.seq (.reg [⟨(some 4), (.mv (.const (.slice none 0 0))), none, false, []⟩]) (.seq (.reg [⟨(some 10), (.mv (.tmp 0)), none, false, []⟩, ⟨(some 11), (.len (.tmp 10)), none, false, []⟩, ⟨(some 12), (.mv (.tmp 1)), none, false, []⟩, ⟨(some 13), (.len (.tmp 12)), none, false, []⟩, ⟨(some 14), (.bin .add (.tmp 11) (.tmp 13)), none, false, []⟩, ⟨(some 15), (.make [(.int .i64 0)] 8 (.tmp 14) (.tmp 14)), none, false, []⟩, ⟨(some 5), (.mv (.tmp 15)), none, false, []⟩]) (.seq (.seq (.reg [⟨(some 16), (.mv (.tmp 0)), none, false, []⟩, ⟨(some 17), (.len (.tmp 16)), none, false, []⟩, ⟨(some 18), (.mv (.const (.int .i64 0))), none, false, []⟩]) (.block 0 (.loop spec_l01NatMul_b1))) (.seq (.reg [⟨(some 65), (.mv (.tmp 5)), none, false, []⟩, ⟨(some 66), (.call 141 [(.tmp 65)]), none, false, []⟩, ⟨(some 4), (.mv (.tmp 66)), none, false, []⟩]) .ret))))
def spec_l01NatMul : PFunc := ⟨67, [(.tmp 4)], spec_l01NatMul_c⟩
theorem spec_l01NatMul_t : tab 105 = some spec_l01NatMul := by kernel_rfl
def spec_l01Nat_b0 : PCode := (.seq (.seq (.reg [⟨(some 5), (.mv (.tmp 0)), none, false, []⟩, ⟨(some 6), (.bin .gtr (.tmp 5) (.const (.int .i64 0))), none, false, []⟩]) (.cond (.tmp 6) .skip (.exit 0))) (.block 1 (.seq (.reg [⟨(some 7), (.mv (.tmp 3)), none, false, []⟩, ⟨(some 8), (.mv (.tmp 0)), none, false, []⟩, ⟨(some 9), (.bin .rem (.tmp 8) (.const (.int .i64 1000000000))), none, false, []⟩, ⟨(some 10), (.lit [(.int .i64 0)] 1 [(0, (.tmp 9))]), none, false, []⟩, ⟨(some 11), (.app 1 8 (.tmp 7) (.tmp 10)), none, false, []⟩, ⟨(some 3), (.mv (.tmp 11)), none, false, []⟩]) (.reg [⟨(some 12), (.mv (.tmp 0)), none, false, []⟩, ⟨(some 13), (.bin .quo (.tmp 12) (.const (.int .i64 1000000000))), none, false, []⟩, ⟨(some 0), (.mv (.tmp 13)), none, false, []⟩]))))
def spec_l01Nat_c : PCode := (.seq (.reg [⟨(some 2), (.mv (.const (.slice none 0 0))), none, false, []⟩]) (.seq (.reg [⟨(some 4), (.lit [(.int .i64 0)] 0 []), none, false, []⟩, ⟨(some 3), (.mv (.tmp 4)), none, false, []⟩]) (.seq (.block 0 (.loop spec_l01Nat_b0)) (.seq (.reg [⟨(some 14), (.mv (.tmp 3)), none, false, []⟩, ⟨(some 2), (.mv (.tmp 14)), none, false, []⟩]) .ret))))
def spec_l01Nat : PFunc := ⟨15, [(.tmp 2)], spec_l01Nat_c⟩
theorem spec_l01Nat_t : tab 108 = some spec_l01Nat := by kernel_rfl
def spec_l01Show_c : PCode := (.seq (.reg [⟨(some 1), (.box (.tmp 0)), none, false, []⟩, ⟨(some 2), (.mv (.const (.string ⟨#[]⟩))), none, false, []⟩]) (.seq (.reg [⟨(some 4), (.faddr 1 (.tmp 1)), none, false, []⟩, ⟨(some 5), (.load false 1 (.tmp 4)), none, false, []⟩, ⟨(some 6), (.call 147 [(.tmp 5)]), none, false, []⟩, ⟨(some 3), (.mv (.tmp 6)), none, false, []⟩]) (.seq (.seq (.reg [⟨(some 7), (.faddr 0 (.tmp 1)), none, false, []⟩, ⟨(some 8), (.load false 1 (.tmp 7)), none, false, []⟩]) (.cond (.tmp 8) (.reg [⟨(some 9), (.mv (.tmp 3)), none, false, []⟩, ⟨(some 10), (.bin .add (.const (.string ⟨#[45]⟩)) (.tmp 9)), none, false, []⟩, ⟨(some 3), (.mv (.tmp 10)), none, false, []⟩]) .skip)) (.seq (.seq (.reg [⟨(some 11), (.faddr 2 (.tmp 1)), none, false, []⟩, ⟨(some 12), (.load false 1 (.tmp 11)), none, false, []⟩, ⟨(some 13), (.lit [(.int .i64 0)] 1 [(0, (.const (.int .i64 1)))]), none, false, []⟩, ⟨(some 14), (.call 104 [(.tmp 12), (.tmp 13)]), none, false, []⟩, ⟨(some 15), (.bin .neq (.tmp 14) (.const (.int .i64 0))), none, false, []⟩]) (.cond (.tmp 15) (.reg [⟨(some 16), (.mv (.tmp 3)), none, false, []⟩, ⟨(some 17), (.faddr 2 (.tmp 1)), none, false, []⟩, ⟨(some 18), (.load false 1 (.tmp 17)), none, false, []⟩, ⟨(some 19), (.call 147 [(.tmp 18)]), none, false, []⟩, ⟨(some 20), (.bin .add (.const (.string ⟨#[47]⟩)) (.tmp 19)), none, false, []⟩, ⟨(some 21), (.bin .add (.tmp 16) (.tmp 20)), none, false, []⟩, ⟨(some 3), (.mv (.tmp 21)), none, false, []⟩]) .skip)) (.seq (.reg [⟨(some 22), (.mv (.tmp 3)), none, false, []⟩, ⟨(some 2), (.mv (.tmp 22)), none, false, []⟩]) .ret)))))
def spec_l01Show : PFunc := ⟨23, [(.tmp 2)], spec_l01Show_c⟩
theorem spec_l01Show_t : tab 126 = some spec_l01Show := by kernel_rfl
def spec_l01Gcd_b0 : PCode := (.seq (.seq (.reg [⟨(some 7), (.mv (.tmp 1)), none, false, []⟩, ⟨(some 8), (.len (.tmp 7)), none, false, []⟩, ⟨(some 9), (.bin .gtr (.tmp 8) (.const (.int .i64 0))), none, false, []⟩]) (.cond (.tmp 9) .skip (.exit 0))) (.block 1 (.seq (.reg [⟨(some 11), (.mv (.tmp 0)), none, false, []⟩, ⟨(some 12), (.mv (.tmp 1)), none, false, []⟩, ⟨(some 13), (.call 137 [(.tmp 11), (.tmp 12)]), none, false, []⟩, ⟨(some 10), (.mv (.tmp 13)), none, false, []⟩, ⟨(some 14), (.ext (.tmp 10) 0), none, false, []⟩, ⟨(some 15), (.ext (.tmp 10) 1), none, false, []⟩, ⟨(some 5), (.mv (.tmp 14)), none, false, []⟩, ⟨(some 6), (.mv (.tmp 15)), none, false, []⟩]) (.seq (.reg [⟨(some 16), (.mv (.tmp 1)), none, false, []⟩, ⟨(some 0), (.mv (.tmp 16)), none, false, []⟩]) (.reg [⟨(some 17), (.mv (.tmp 6)), none, false, []⟩, ⟨(some 1), (.mv (.tmp 17)), none, false, []⟩])))))
def spec_l01Gcd_c : PCode := (.seq (.reg [⟨(some 4), (.mv (.const (.slice none 0 0))), none, false, []⟩]) (.seq (.block 0 (.loop spec_l01Gcd_b0)) (.seq (.reg [⟨(some 18), (.mv (.tmp 0)), none, false, []⟩, ⟨(some 4), (.mv (.tmp 18)), none, false, []⟩]) .ret)))
def spec_l01Gcd : PFunc := ⟨19, [(.tmp 4)], spec_l01Gcd_c⟩
theorem spec_l01Gcd_t : tab 136 = some spec_l01Gcd := by kernel_rfl
def spec_l01NatDiv_b0 : PCode := (.seq (.seq (.reg [⟨(some 132), (.mv (.tmp 19)), none, false, []⟩, ⟨(some 133), (.bin .geq (.tmp 132) (.const (.int .i64 1000000000))), none, false, []⟩, ⟨(some 134), (.mv (.tmp 133)), none, false, []⟩, ⟨(some 135), (.mv (.tmp 19)), (some (134, false)), false, []⟩, ⟨(some 136), (.mv (.tmp 14)), (some (134, false)), false, []⟩, ⟨(some 137), (.mv (.tmp 15)), (some (134, false)), false, []⟩, ⟨(some 138), (.bin .sub (.tmp 137) (.const (.int .i64 2))), (some (134, false)), false, []⟩, ⟨(some 139), (.iaddr 1 (.tmp 136) (.tmp 138)), (some (134, false)), false, []⟩, ⟨(some 140), (.load false 1 (.tmp 139)), (some (134, false)), false, []⟩, ⟨(some 141), (.bin .mul (.tmp 135) (.tmp 140)), (some (134, false)), false, []⟩, ⟨(some 142), (.mv (.tmp 20)), (some (134, false)), false, []⟩, ⟨(some 143), (.bin .mul (.tmp 142) (.const (.int .i64 1000000000))), (some (134, false)), false, []⟩, ⟨(some 144), (.mv (.tmp 13)), (some (134, false)), false, []⟩, ⟨(some 145), (.mv (.tmp 17)), (some (134, false)), false, []⟩, ⟨(some 146), (.mv (.tmp 15)), (some (134, false)), false, []⟩, ⟨(some 147), (.bin .add (.tmp 145) (.tmp 146)), (some (134, false)), false, []⟩, ⟨(some 148), (.bin .sub (.tmp 147) (.const (.int .i64 2))), (some (134, false)), false, []⟩, ⟨(some 149), (.iaddr 1 (.tmp 144) (.tmp 148)), (some (134, false)), false, []⟩, ⟨(some 150), (.load false 1 (.tmp 149)), (some (134, false)), false, []⟩, ⟨(some 151), (.bin .add (.tmp 143) (.tmp 150)), (some (134, false)), false, []⟩, ⟨(some 152), (.bin .gtr (.tmp 141) (.tmp 151)), (some (134, false)), false, []⟩, ⟨(some 153), (.pick (.tmp 134) (.const (.bool true)) (.tmp 152)), none, false, []⟩]) (.cond (.tmp 153) .skip (.exit 2))) (.block 3 (.seq (.reg [⟨(some 154), (.mv (.tmp 19)), none, false, []⟩, ⟨(some 155), (.bin .sub (.tmp 154) (.const (.int .i64 1))), none, false, []⟩, ⟨(some 19), (.mv (.tmp 155)), none, false, []⟩]) (.seq (.reg [⟨(some 156), (.mv (.tmp 20)), none, false, []⟩, ⟨(some 157), (.mv (.tmp 14)), none, false, []⟩, ⟨(some 158), (.mv (.tmp 15)), none, false, []⟩, ⟨(some 159), (.bin .sub (.tmp 158) (.const (.int .i64 1))), none, false, []⟩, ⟨(some 160), (.iaddr 1 (.tmp 157) (.tmp 159)), none, false, []⟩, ⟨(some 161), (.load false 1 (.tmp 160)), none, false, []⟩, ⟨(some 162), (.bin .add (.tmp 156) (.tmp 161)), none, false, []⟩, ⟨(some 20), (.mv (.tmp 162)), none, false, []⟩]) (.seq (.reg [⟨(some 163), (.mv (.tmp 20)), none, false, []⟩, ⟨(some 164), (.bin .geq (.tmp 163) (.const (.int .i64 1000000000))), none, false, []⟩]) (.cond (.tmp 164) (.exit 2) .skip))))))
def spec_l01NatDiv_b1 : PCode := (.seq (.seq (.reg [⟨(some 99), (.mv (.tmp 17)), none, false, []⟩, ⟨(some 100), (.bin .geq (.tmp 99) (.const (.int .i64 0))), none, false, []⟩]) (.cond (.tmp 100) .skip (.exit 0))) (.seq (.block 1 (.seq (.reg [⟨(some 103), (.mv (.tmp 13)), none, false, []⟩, ⟨(some 104), (.mv (.tmp 17)), none, false, []⟩, ⟨(some 105), (.mv (.tmp 15)), none, false, []⟩, ⟨(some 106), (.bin .add (.tmp 104) (.tmp 105)), none, false, []⟩, ⟨(some 107), (.iaddr 1 (.tmp 103) (.tmp 106)), none, false, []⟩, ⟨(some 108), (.load false 1 (.tmp 107)), none, false, []⟩, ⟨(some 109), (.bin .mul (.tmp 108) (.const (.int .i64 1000000000))), none, false, []⟩, ⟨(some 110), (.mv (.tmp 13)), none, false, []⟩, ⟨(some 111), (.mv (.tmp 17)), none, false, []⟩, ⟨(some 112), (.mv (.tmp 15)), none, false, []⟩, ⟨(some 113), (.bin .add (.tmp 111) (.tmp 112)), none, false, []⟩, ⟨(some 114), (.bin .sub (.tmp 113) (.const (.int .i64 1))), none, false, []⟩, ⟨(some 115), (.iaddr 1 (.tmp 110) (.tmp 114)), none, false, []⟩, ⟨(some 116), (.load false 1 (.tmp 115)), none, false, []⟩, ⟨(some 117), (.bin .add (.tmp 109) (.tmp 116)), none, false, []⟩, ⟨(some 18), (.mv (.tmp 117)), none, false, []⟩]) (.seq (.reg [⟨(some 118), (.mv (.tmp 18)), none, false, []⟩, ⟨(some 119), (.mv (.tmp 14)), none, false, []⟩, ⟨(some 120), (.mv (.tmp 15)), none, false, []⟩, ⟨(some 121), (.bin .sub (.tmp 120) (.const (.int .i64 1))), none, false, []⟩, ⟨(some 122), (.iaddr 1 (.tmp 119) (.tmp 121)), none, false, []⟩, ⟨(some 123), (.load false 1 (.tmp 122)), none, false, []⟩, ⟨(some 124), (.bin .quo (.tmp 118) (.tmp 123)), none, false, []⟩, ⟨(some 125), (.mv (.tmp 18)), none, false, []⟩, ⟨(some 126), (.mv (.tmp 14)), none, false, []⟩, ⟨(some 127), (.mv (.tmp 15)), none, false, []⟩, ⟨(some 128), (.bin .sub (.tmp 127) (.const (.int .i64 1))), none, false, []⟩, ⟨(some 129), (.iaddr 1 (.tmp 126) (.tmp 128)), none, false, []⟩, ⟨(some 130), (.load false 1 (.tmp 129)), none, false, []⟩, ⟨(some 131), (.bin .rem (.tmp 125) (.tmp 130)), none, false, []⟩, ⟨(some 19), (.mv (.tmp 124)), none, false, []⟩, ⟨(some 20), (.mv (.tmp 131)), none, false, []⟩]) (.seq (.block 2 (.loop spec_l01NatDiv_b0)) (.seq (.seq (.reg [⟨(some 165), (.mv (.tmp 13)), none, false, []⟩, ⟨(some 166), (.mv (.tmp 14)), none, false, []⟩, ⟨(some 167), (.mv (.tmp 17)), none, false, []⟩, ⟨(some 168), (.mv (.tmp 19)), none, false, []⟩, ⟨(some 169), (.call 156 [(.tmp 165), (.tmp 166), (.tmp 167), (.tmp 168)]), none, false, []⟩]) (.cond (.tmp 169) (.seq (.reg [⟨(some 170), (.mv (.tmp 19)), none, false, []⟩, ⟨(some 171), (.bin .sub (.tmp 170) (.const (.int .i64 1))), none, false, []⟩, ⟨(some 19), (.mv (.tmp 171)), none, false, []⟩]) (.reg [⟨(some 172), (.mv (.tmp 13)), none, false, []⟩, ⟨(some 173), (.mv (.tmp 14)), none, false, []⟩, ⟨(some 174), (.mv (.tmp 17)), none, false, []⟩, ⟨(some 175), (.call 157 [(.tmp 172), (.tmp 173), (.tmp 174)]), none, false, []⟩])) .skip)) (.reg [⟨(some 176), (.mv (.tmp 16)), none, false, []⟩, ⟨(some 177), (.mv (.tmp 17)), none, false, []⟩, ⟨(some 178), (.mv (.tmp 19)), none, false, []⟩, ⟨(some 179), (.iaddr 1 (.tmp 176) (.tmp 177)), none, false, []⟩, ⟨none, (.store 1 (.tmp 179) (.tmp 178)), none, false, []⟩])))))) (.reg [⟨(some 101), (.mv (.tmp 17)), none, false, []⟩, ⟨(some 102), (.bin .sub (.tmp 101) (.const (.int .i64 1))), none, false, []⟩, ⟨(some 17), (.mv (.tmp 102)), none, false, []⟩])))
def spec_l01NatDiv_c : PCode := (.seq (.reg [⟨(some 4), (.mv (.const (.slice none 0 0))), none, false, []⟩, ⟨(some 5), (.mv (.const (.slice none 0 0))), none, false, []⟩]) (.seq (.reg [⟨(some 24), (.mv (.tmp 0)), none, false, []⟩, ⟨(some 25), (.call 153 [(.tmp 24)]), none, false, []⟩, ⟨(some 23), (.mv (.tmp 25)), none, false, []⟩, ⟨(some 26), (.ext (.tmp 23) 0), none, false, []⟩, ⟨(some 27), (.ext (.tmp 23) 1), none, false, []⟩, ⟨(some 6), (.mv (.tmp 26)), none, false, []⟩, ⟨(some 7), (.mv (.tmp 27)), none, false, []⟩]) (.seq (.reg [⟨(some 29), (.mv (.tmp 1)), none, false, []⟩, ⟨(some 30), (.call 153 [(.tmp 29)]), none, false, []⟩, ⟨(some 28), (.mv (.tmp 30)), none, false, []⟩, ⟨(some 31), (.ext (.tmp 28) 0), none, false, []⟩, ⟨(some 32), (.ext (.tmp 28) 1), none, false, []⟩, ⟨(some 8), (.mv (.tmp 31)), none, false, []⟩, ⟨(some 9), (.mv (.tmp 32)), none, false, []⟩]) (.seq (.seq (.reg [⟨(some 33), (.mv (.tmp 7)), none, false, []⟩, ⟨(some 34), (.mv (.tmp 33)), none, false, []⟩, ⟨(some 35), (.mv (.tmp 9)), (some (34, true)), false, []⟩, ⟨(some 36), (.pick (.tmp 34) (.tmp 35) (.const (.bool false))), none, false, []⟩]) (.cond (.tmp 36) (.seq (.reg [⟨(some 37), (.mv (.tmp 6)), none, false, []⟩, ⟨(some 38), (.mv (.tmp 8)), none, false, []⟩, ⟨(some 39), (.bin .quo (.tmp 37) (.tmp 38)), none, false, []⟩, ⟨(some 40), (.call 108 [(.tmp 39)]), none, true, []⟩, ⟨(some 41), (.mv (.tmp 6)), none, false, []⟩, ⟨(some 42), (.mv (.tmp 8)), none, false, []⟩, ⟨(some 43), (.bin .rem (.tmp 41) (.tmp 42)), none, false, []⟩, ⟨(some 44), (.call 108 [(.tmp 43)]), none, true, []⟩, ⟨(some 4), (.mv (.tmp 40)), none, false, []⟩, ⟨(some 5), (.mv (.tmp 44)), none, false, []⟩]) .ret) .skip)) (.seq (.seq (.reg [⟨(some 45), (.mv (.tmp 0)), none, false, []⟩, ⟨(some 46), (.mv (.tmp 1)), none, false, []⟩, ⟨(some 47), (.call 104 [(.tmp 45), (.tmp 46)]), none, false, []⟩, ⟨(some 48), (.bin .lss (.tmp 47) (.const (.int .i64 0))), none, false, []⟩]) (.cond (.tmp 48) (.seq (.reg [⟨(some 49), (.lit [(.int .i64 0)] 0 []), none, false, []⟩, ⟨(some 50), (.lit [(.int .i64 0)] 0 []), none, false, []⟩, ⟨(some 51), (.mv (.tmp 0)), none, false, []⟩, ⟨(some 52), (.app 1 8 (.tmp 50) (.tmp 51)), none, false, []⟩, ⟨(some 4), (.mv (.tmp 49)), none, false, []⟩, ⟨(some 5), (.mv (.tmp 52)), none, false, []⟩]) .ret) .skip)) (.seq (.seq (.reg [⟨(some 53), (.mv (.tmp 1)), none, false, []⟩, ⟨(some 54), (.len (.tmp 53)), none, false, []⟩, ⟨(some 55), (.bin .eql (.tmp 54) (.const (.int .i64 1))), none, false, []⟩]) (.cond (.tmp 55) (.seq (.reg [⟨(some 57), (.mv (.tmp 0)), none, false, []⟩, ⟨(some 58), (.mv (.tmp 1)), none, false, []⟩, ⟨(some 59), (.iaddr 1 (.tmp 58) (.const (.int .i64 0))), none, false, []⟩, ⟨(some 60), (.load false 1 (.tmp 59)), none, false, []⟩, ⟨(some 61), (.call 154 [(.tmp 57), (.tmp 60)]), none, false, []⟩, ⟨(some 56), (.mv (.tmp 61)), none, false, []⟩, ⟨(some 62), (.ext (.tmp 56) 0), none, false, []⟩, ⟨(some 63), (.ext (.tmp 56) 1), none, false, []⟩, ⟨(some 10), (.mv (.tmp 62)), none, false, []⟩, ⟨(some 11), (.mv (.tmp 63)), none, false, []⟩]) (.seq (.reg [⟨(some 64), (.mv (.tmp 10)), none, false, []⟩, ⟨(some 65), (.mv (.tmp 11)), none, false, []⟩, ⟨(some 66), (.call 108 [(.tmp 65)]), none, false, []⟩, ⟨(some 4), (.mv (.tmp 64)), none, false, []⟩, ⟨(some 5), (.mv (.tmp 66)), none, false, []⟩]) .ret)) .skip)) (.seq (.reg [⟨(some 67), (.mv (.tmp 1)), none, false, []⟩, ⟨(some 68), (.mv (.tmp 1)), none, false, []⟩, ⟨(some 69), (.len (.tmp 68)), none, false, []⟩, ⟨(some 70), (.bin .sub (.tmp 69) (.const (.int .i64 1))), none, false, []⟩, ⟨(some 71), (.iaddr 1 (.tmp 67) (.tmp 70)), none, false, []⟩, ⟨(some 72), (.load false 1 (.tmp 71)), none, false, []⟩, ⟨(some 73), (.bin .add (.tmp 72) (.const (.int .i64 1))), none, false, []⟩, ⟨(some 74), (.bin .quo (.const (.int .i64 1000000000)) (.tmp 73)), none, false, []⟩, ⟨(some 12), (.mv (.tmp 74)), none, false, []⟩]) (.seq (.reg [⟨(some 75), (.mv (.tmp 0)), none, false, []⟩, ⟨(some 76), (.len (.tmp 75)), none, false, []⟩, ⟨(some 77), (.bin .add (.tmp 76) (.const (.int .i64 1))), none, false, []⟩, ⟨(some 78), (.make [(.int .i64 0)] 8 (.tmp 77) (.tmp 77)), none, false, []⟩, ⟨(some 13), (.mv (.tmp 78)), none, false, []⟩]) (.seq (.reg [⟨(some 79), (.mv (.tmp 13)), none, false, []⟩, ⟨(some 80), (.mv (.tmp 0)), none, false, []⟩, ⟨(some 81), (.mv (.tmp 12)), none, false, []⟩, ⟨(some 82), (.call 155 [(.tmp 80), (.tmp 81)]), none, false, []⟩, ⟨(some 83), (.copy 1 (.tmp 79) (.tmp 82)), none, false, []⟩]) (.seq (.reg [⟨(some 84), (.mv (.tmp 1)), none, false, []⟩, ⟨(some 85), (.mv (.tmp 12)), none, false, []⟩, ⟨(some 86), (.call 155 [(.tmp 84), (.tmp 85)]), none, false, []⟩, ⟨(some 14), (.mv (.tmp 86)), none, false, []⟩]) (.seq (.reg [⟨(some 87), (.mv (.tmp 14)), none, false, []⟩, ⟨(some 88), (.len (.tmp 87)), none, false, []⟩, ⟨(some 15), (.mv (.tmp 88)), none, false, []⟩]) (.seq (.reg [⟨(some 89), (.mv (.tmp 13)), none, false, []⟩, ⟨(some 90), (.len (.tmp 89)), none, false, []⟩, ⟨(some 91), (.mv (.tmp 15)), none, false, []⟩, ⟨(some 92), (.bin .sub (.tmp 90) (.tmp 91)), none, false, []⟩, ⟨(some 93), (.make [(.int .i64 0)] 8 (.tmp 92) (.tmp 92)), none, false, []⟩, ⟨(some 16), (.mv (.tmp 93)), none, false, []⟩]) (.seq (.seq (.reg [⟨(some 94), (.mv (.tmp 13)), none, false, []⟩, ⟨(some 95), (.len (.tmp 94)), none, false, []⟩, ⟨(some 96), (.mv (.tmp 15)), none, false, []⟩, ⟨(some 97), (.bin .sub (.tmp 95) (.tmp 96)), none, false, []⟩, ⟨(some 98), (.bin .sub (.tmp 97) (.const (.int .i64 1))), none, false, []⟩, ⟨(some 17), (.mv (.tmp 98)), none, false, []⟩]) (.block 0 (.loop spec_l01NatDiv_b1))) (.seq (.reg [⟨(some 181), (.mv (.tmp 13)), none, false, []⟩, ⟨(some 182), (.call 141 [(.tmp 181)]), none, false, []⟩, ⟨(some 183), (.mv (.tmp 12)), none, false, []⟩, ⟨(some 184), (.call 154 [(.tmp 182), (.tmp 183)]), none, false, []⟩, ⟨(some 180), (.mv (.tmp 184)), none, false, []⟩, ⟨(some 185), (.ext (.tmp 180) 0), none, false, []⟩, ⟨(some 186), (.ext (.tmp 180) 1), none, false, []⟩, ⟨(some 21), (.mv (.tmp 185)), none, false, []⟩, ⟨(some 22), (.mv (.tmp 186)), none, false, []⟩]) (.seq (.reg [⟨(some 187), (.mv (.tmp 16)), none, false, []⟩, ⟨(some 188), (.call 141 [(.tmp 187)]), none, false, []⟩, ⟨(some 189), (.mv (.tmp 21)), none, false, []⟩, ⟨(some 4), (.mv (.tmp 188)), none, false, []⟩, ⟨(some 5), (.mv (.tmp 189)), none, false, []⟩]) .ret)))))))))))))))
def spec_l01NatDiv : PFunc := ⟨190, [(.tmp 4), (.tmp 5)], spec_l01NatDiv_c⟩
theorem spec_l01NatDiv_t : tab 137 = some spec_l01NatDiv := by kernel_rfl
def spec_l01Trim_b0 : PCode := (.seq (.seq (.reg [⟨(some 3), (.mv (.tmp 0)), none, false, []⟩, ⟨(some 4), (.len (.tmp 3)), none, false, []⟩, ⟨(some 5), (.bin .gtr (.tmp 4) (.const (.int .i64 0))), none, false, []⟩, ⟨(some 6), (.mv (.tmp 5)), none, false, []⟩, ⟨(some 7), (.mv (.tmp 0)), (some (6, true)), false, []⟩, ⟨(some 8), (.mv (.tmp 0)), (some (6, true)), false, []⟩, ⟨(some 9), (.len (.tmp 8)), (some (6, true)), false, []⟩, ⟨(some 10), (.bin .sub (.tmp 9) (.const (.int .i64 1))), (some (6, true)), false, []⟩, ⟨(some 11), (.iaddr 1 (.tmp 7) (.tmp 10)), (some (6, true)), false, []⟩, ⟨(some 12), (.load false 1 (.tmp 11)), (some (6, true)), false, []⟩, ⟨(some 13), (.bin .eql (.tmp 12) (.const (.int .i64 0))), (some (6, true)), false, []⟩, ⟨(some 14), (.pick (.tmp 6) (.tmp 13) (.const (.bool false))), none, false, []⟩]) (.cond (.tmp 14) .skip (.exit 0))) (.block 1 (.reg [⟨(some 15), (.mv (.tmp 0)), none, false, []⟩, ⟨(some 16), (.mv (.tmp 0)), none, false, []⟩, ⟨(some 17), (.len (.tmp 16)), none, false, []⟩, ⟨(some 18), (.bin .sub (.tmp 17) (.const (.int .i64 1))), none, false, []⟩, ⟨(some 19), (.sub 1 (.tmp 15) none (some (.tmp 18)) none), none, false, []⟩, ⟨(some 0), (.mv (.tmp 19)), none, false, []⟩])))
def spec_l01Trim_c : PCode := (.seq (.reg [⟨(some 2), (.mv (.const (.slice none 0 0))), none, false, []⟩]) (.seq (.block 0 (.loop spec_l01Trim_b0)) (.seq (.reg [⟨(some 20), (.mv (.tmp 0)), none, false, []⟩, ⟨(some 2), (.mv (.tmp 20)), none, false, []⟩]) .ret)))
def spec_l01Trim : PFunc := ⟨21, [(.tmp 2)], spec_l01Trim_c⟩
theorem spec_l01Trim_t : tab 141 = some spec_l01Trim := by kernel_rfl
def spec_l01Digit_c : PCode := (.seq (.reg [⟨(some 4), (.mv (.const (.int .i64 0))), none, false, []⟩]) (.seq (.seq (.reg [⟨(some 5), (.mv (.tmp 1)), none, false, []⟩, ⟨(some 6), (.mv (.tmp 0)), none, false, []⟩, ⟨(some 7), (.len (.tmp 6)), none, false, []⟩, ⟨(some 8), (.bin .lss (.tmp 5) (.tmp 7)), none, false, []⟩]) (.cond (.tmp 8) (.seq (.reg [⟨(some 9), (.mv (.tmp 0)), none, false, []⟩, ⟨(some 10), (.mv (.tmp 1)), none, false, []⟩, ⟨(some 11), (.iaddr 1 (.tmp 9) (.tmp 10)), none, false, []⟩, ⟨(some 12), (.load false 1 (.tmp 11)), none, false, []⟩, ⟨(some 4), (.mv (.tmp 12)), none, false, []⟩]) .ret) .skip)) (.seq (.reg [⟨(some 4), (.mv (.const (.int .i64 0))), none, false, []⟩]) .ret)))
def spec_l01Digit : PFunc := ⟨13, [(.tmp 4)], spec_l01Digit_c⟩
theorem spec_l01Digit_t : tab 142 = some spec_l01Digit := by kernel_rfl
def spec_l01NatText_b0 : PCode := (.seq (.seq (.reg [⟨(some 19), (.mv (.tmp 4)), none, false, []⟩, ⟨(some 20), (.bin .geq (.tmp 19) (.const (.int .i64 0))), none, false, []⟩]) (.cond (.tmp 20) .skip (.exit 0))) (.seq (.block 1 (.seq (.reg [⟨(some 23), (.mv (.tmp 0)), none, false, []⟩, ⟨(some 24), (.mv (.tmp 4)), none, false, []⟩, ⟨(some 25), (.iaddr 1 (.tmp 23) (.tmp 24)), none, false, []⟩, ⟨(some 26), (.load false 1 (.tmp 25)), none, false, []⟩, ⟨(some 27), (.bin .add (.tmp 26) (.const (.int .i64 1000000000))), none, false, []⟩, ⟨(some 28), (.call 83 [(.tmp 27)]), none, false, []⟩, ⟨(some 5), (.mv (.tmp 28)), none, false, []⟩]) (.reg [⟨(some 29), (.mv (.tmp 3)), none, false, []⟩, ⟨(some 30), (.mv (.tmp 5)), none, false, []⟩, ⟨(some 31), (.ssub (.tmp 30) (some (.const (.int .i64 1))) none), none, false, []⟩, ⟨(some 32), (.bin .add (.tmp 29) (.tmp 31)), none, false, []⟩, ⟨(some 3), (.mv (.tmp 32)), none, false, []⟩]))) (.reg [⟨(some 21), (.mv (.tmp 4)), none, false, []⟩, ⟨(some 22), (.bin .sub (.tmp 21) (.const (.int .i64 1))), none, false, []⟩, ⟨(some 4), (.mv (.tmp 22)), none, false, []⟩])))
def spec_l01NatText_c : PCode := (.seq (.reg [⟨(some 2), (.mv (.const (.string ⟨#[]⟩))), none, false, []⟩]) (.seq (.seq (.reg [⟨(some 6), (.mv (.tmp 0)), none, false, []⟩, ⟨(some 7), (.len (.tmp 6)), none, false, []⟩, ⟨(some 8), (.bin .eql (.tmp 7) (.const (.int .i64 0))), none, false, []⟩]) (.cond (.tmp 8) (.seq (.reg [⟨(some 2), (.mv (.const (.string ⟨#[48]⟩))), none, false, []⟩]) .ret) .skip)) (.seq (.reg [⟨(some 9), (.mv (.tmp 0)), none, false, []⟩, ⟨(some 10), (.mv (.tmp 0)), none, false, []⟩, ⟨(some 11), (.len (.tmp 10)), none, false, []⟩, ⟨(some 12), (.bin .sub (.tmp 11) (.const (.int .i64 1))), none, false, []⟩, ⟨(some 13), (.iaddr 1 (.tmp 9) (.tmp 12)), none, false, []⟩, ⟨(some 14), (.load false 1 (.tmp 13)), none, false, []⟩, ⟨(some 15), (.call 83 [(.tmp 14)]), none, false, []⟩, ⟨(some 3), (.mv (.tmp 15)), none, false, []⟩]) (.seq (.seq (.reg [⟨(some 16), (.mv (.tmp 0)), none, false, []⟩, ⟨(some 17), (.len (.tmp 16)), none, false, []⟩, ⟨(some 18), (.bin .sub (.tmp 17) (.const (.int .i64 2))), none, false, []⟩, ⟨(some 4), (.mv (.tmp 18)), none, false, []⟩]) (.block 0 (.loop spec_l01NatText_b0))) (.seq (.reg [⟨(some 33), (.mv (.tmp 3)), none, false, []⟩, ⟨(some 2), (.mv (.tmp 33)), none, false, []⟩]) .ret)))))
def spec_l01NatText : PFunc := ⟨34, [(.tmp 2)], spec_l01NatText_c⟩
theorem spec_l01NatText_t : tab 147 = some spec_l01NatText := by kernel_rfl
def spec_l01Small_c : PCode := (.seq (.reg [⟨(some 2), (.mv (.const (.int .i64 0))), none, false, []⟩, ⟨(some 3), (.mv (.const (.bool false))), none, false, []⟩]) (.seq (.seq (.reg [⟨(some 4), (.mv (.tmp 0)), none, false, []⟩, ⟨(some 5), (.len (.tmp 4)), none, false, []⟩, ⟨(some 6), (.bin .gtr (.tmp 5) (.const (.int .i64 2))), none, false, []⟩]) (.cond (.tmp 6) (.seq (.reg [⟨(some 2), (.mv (.const (.int .i64 0))), none, false, []⟩, ⟨(some 3), (.mv (.const (.bool false))), none, false, []⟩]) .ret) .skip)) (.seq (.reg [⟨(some 7), (.mv (.tmp 0)), none, false, []⟩, ⟨(some 8), (.call 142 [(.tmp 7), (.const (.int .i64 0))]), none, false, []⟩, ⟨(some 9), (.mv (.tmp 0)), none, false, []⟩, ⟨(some 10), (.call 142 [(.tmp 9), (.const (.int .i64 1))]), none, false, []⟩, ⟨(some 11), (.bin .mul (.const (.int .i64 1000000000)) (.tmp 10)), none, false, []⟩, ⟨(some 12), (.bin .add (.tmp 8) (.tmp 11)), none, false, []⟩, ⟨(some 2), (.mv (.tmp 12)), none, false, []⟩, ⟨(some 3), (.mv (.const (.bool true))), none, false, []⟩]) .ret)))
def spec_l01Small : PFunc := ⟨13, [(.tmp 2), (.tmp 3)], spec_l01Small_c⟩
theorem spec_l01Small_t : tab 153 = some spec_l01Small := by kernel_rfl
def spec_l01ShortDiv_b0 : PCode := (.seq (.seq (.reg [⟨(some 16), (.mv (.tmp 8)), none, false, []⟩, ⟨(some 17), (.bin .geq (.tmp 16) (.const (.int .i64 0))), none, false, []⟩]) (.cond (.tmp 17) .skip (.exit 0))) (.seq (.block 1 (.seq (.reg [⟨(some 20), (.mv (.tmp 7)), none, false, []⟩, ⟨(some 21), (.bin .mul (.tmp 20) (.const (.int .i64 1000000000))), none, false, []⟩, ⟨(some 22), (.mv (.tmp 0)), none, false, []⟩, ⟨(some 23), (.mv (.tmp 8)), none, false, []⟩, ⟨(some 24), (.iaddr 1 (.tmp 22) (.tmp 23)), none, false, []⟩, ⟨(some 25), (.load false 1 (.tmp 24)), none, false, []⟩, ⟨(some 26), (.bin .add (.tmp 21) (.tmp 25)), none, false, []⟩, ⟨(some 9), (.mv (.tmp 26)), none, false, []⟩]) (.seq (.reg [⟨(some 27), (.mv (.tmp 6)), none, false, []⟩, ⟨(some 28), (.mv (.tmp 8)), none, false, []⟩, ⟨(some 29), (.mv (.tmp 9)), none, false, []⟩, ⟨(some 30), (.mv (.tmp 1)), none, false, []⟩, ⟨(some 31), (.bin .quo (.tmp 29) (.tmp 30)), none, false, []⟩, ⟨(some 32), (.iaddr 1 (.tmp 27) (.tmp 28)), none, false, []⟩, ⟨none, (.store 1 (.tmp 32) (.tmp 31)), none, false, []⟩]) (.reg [⟨(some 33), (.mv (.tmp 9)), none, false, []⟩, ⟨(some 34), (.mv (.tmp 1)), none, false, []⟩, ⟨(some 35), (.bin .rem (.tmp 33) (.tmp 34)), none, false, []⟩, ⟨(some 7), (.mv (.tmp 35)), none, false, []⟩])))) (.reg [⟨(some 18), (.mv (.tmp 8)), none, false, []⟩, ⟨(some 19), (.bin .sub (.tmp 18) (.const (.int .i64 1))), none, false, []⟩, ⟨(some 8), (.mv (.tmp 19)), none, false, []⟩])))
def spec_l01ShortDiv_c : PCode := (.seq (.reg [⟨(some 4), (.mv (.const (.slice none 0 0))), none, false, []⟩, ⟨(some 5), (.mv (.const (.int .i64 0))), none, false, []⟩]) (.seq (.reg [⟨(some 10), (.mv (.tmp 0)), none, false, []⟩, ⟨(some 11), (.len (.tmp 10)), none, false, []⟩, ⟨(some 12), (.make [(.int .i64 0)] 8 (.tmp 11) (.tmp 11)), none, false, []⟩, ⟨(some 6), (.mv (.tmp 12)), none, false, []⟩]) (.seq (.reg [⟨(some 7), (.mv (.const (.int .i64 0))), none, false, []⟩]) (.seq (.seq (.reg [⟨(some 13), (.mv (.tmp 0)), none, false, []⟩, ⟨(some 14), (.len (.tmp 13)), none, false, []⟩, ⟨(some 15), (.bin .sub (.tmp 14) (.const (.int .i64 1))), none, false, []⟩, ⟨(some 8), (.mv (.tmp 15)), none, false, []⟩]) (.block 0 (.loop spec_l01ShortDiv_b0))) (.seq (.reg [⟨(some 36), (.mv (.tmp 6)), none, false, []⟩, ⟨(some 37), (.call 141 [(.tmp 36)]), none, false, []⟩, ⟨(some 38), (.mv (.tmp 7)), none, false, []⟩, ⟨(some 4), (.mv (.tmp 37)), none, false, []⟩, ⟨(some 5), (.mv (.tmp 38)), none, false, []⟩]) .ret)))))
def spec_l01ShortDiv : PFunc := ⟨39, [(.tmp 4), (.tmp 5)], spec_l01ShortDiv_c⟩
theorem spec_l01ShortDiv_t : tab 154 = some spec_l01ShortDiv := by kernel_rfl
def spec_l01ShortMul_b0 : PCode := (.seq (.reg [⟨(some 17), (.bin .lss (.tmp 16) (.tmp 15)), none, false, []⟩]) (.seq (.cond (.tmp 17) .skip (.exit 0)) (.seq (.block 1 (.seq (.reg [⟨(some 18), (.iaddr 1 (.tmp 14) (.tmp 16)), none, false, []⟩, ⟨(some 19), (.load false 1 (.tmp 18)), none, false, []⟩, ⟨(some 8), (.mv (.tmp 19)), none, false, []⟩]) (.seq (.reg [⟨(some 20), (.mv (.tmp 8)), none, false, []⟩, ⟨(some 21), (.mv (.tmp 1)), none, false, []⟩, ⟨(some 22), (.bin .mul (.tmp 20) (.tmp 21)), none, false, []⟩, ⟨(some 23), (.mv (.tmp 6)), none, false, []⟩, ⟨(some 24), (.bin .add (.tmp 22) (.tmp 23)), none, false, []⟩, ⟨(some 9), (.mv (.tmp 24)), none, false, []⟩]) (.seq (.reg [⟨(some 25), (.mv (.tmp 5)), none, false, []⟩, ⟨(some 26), (.mv (.tmp 9)), none, false, []⟩, ⟨(some 27), (.bin .rem (.tmp 26) (.const (.int .i64 1000000000))), none, false, []⟩, ⟨(some 28), (.lit [(.int .i64 0)] 1 [(0, (.tmp 27))]), none, false, []⟩, ⟨(some 29), (.app 1 8 (.tmp 25) (.tmp 28)), none, false, []⟩, ⟨(some 5), (.mv (.tmp 29)), none, false, []⟩]) (.reg [⟨(some 30), (.mv (.tmp 9)), none, false, []⟩, ⟨(some 31), (.bin .quo (.tmp 30) (.const (.int .i64 1000000000))), none, false, []⟩, ⟨(some 6), (.mv (.tmp 31)), none, false, []⟩]))))) (.reg [⟨(some 32), (.bin .add (.tmp 16) (.const (.int .i64 1))), none, false, []⟩, ⟨(some 16), (.mv (.tmp 32)), none, false, []⟩]))))
def spec_l01ShortMul_c : PCode := (.seq (.reg [⟨(some 4), (.mv (.const (.slice none 0 0))), none, false, []⟩]) (.seq (.reg [⟨(some 10), (.mv (.tmp 0)), none, false, []⟩, ⟨(some 11), (.len (.tmp 10)), none, false, []⟩, ⟨(some 12), (.bin .add (.tmp 11) (.const (.int .i64 1))), none, false, []⟩, ⟨(some 13), (.make [(.int .i64 0)] 8 (.const (.int .i64 0)) (.tmp 12)), none, false, []⟩, ⟨(some 5), (.mv (.tmp 13)), none, false, []⟩]) (.seq (.reg [⟨(some 6), (.mv (.const (.int .i64 0))), none, false, []⟩]) (.seq (.seq (.reg [⟨(some 14), (.mv (.tmp 0)), none, false, []⟩, ⟨(some 15), (.len (.tmp 14)), none, false, []⟩, ⟨(some 16), (.mv (.const (.int .i64 0))), none, false, []⟩]) (.block 0 (.loop spec_l01ShortMul_b0))) (.seq (.seq (.reg [⟨(some 33), (.mv (.tmp 6)), none, false, []⟩, ⟨(some 34), (.bin .gtr (.tmp 33) (.const (.int .i64 0))), none, false, []⟩]) (.cond (.tmp 34) (.reg [⟨(some 35), (.mv (.tmp 5)), none, false, []⟩, ⟨(some 36), (.mv (.tmp 6)), none, false, []⟩, ⟨(some 37), (.lit [(.int .i64 0)] 1 [(0, (.tmp 36))]), none, false, []⟩, ⟨(some 38), (.app 1 8 (.tmp 35) (.tmp 37)), none, false, []⟩, ⟨(some 5), (.mv (.tmp 38)), none, false, []⟩]) .skip)) (.seq (.reg [⟨(some 39), (.mv (.tmp 5)), none, false, []⟩, ⟨(some 4), (.mv (.tmp 39)), none, false, []⟩]) .ret))))))
def spec_l01ShortMul : PFunc := ⟨40, [(.tmp 4)], spec_l01ShortMul_c⟩
theorem spec_l01ShortMul_t : tab 155 = some spec_l01ShortMul := by kernel_rfl
def spec_l01TakeOff_b0 : PCode := (.seq (.reg [⟨(some 16), (.bin .lss (.tmp 15) (.tmp 14)), none, false, []⟩]) (.seq (.cond (.tmp 16) .skip (.exit 0)) (.seq (.block 1 (.seq (.reg [⟨(some 17), (.mv (.tmp 15)), none, false, []⟩, ⟨(some 18), (.iaddr 1 (.tmp 13) (.tmp 15)), none, false, []⟩, ⟨(some 19), (.load false 1 (.tmp 18)), none, false, []⟩, ⟨(some 10), (.mv (.tmp 17)), none, false, []⟩, ⟨(some 11), (.mv (.tmp 19)), none, false, []⟩]) (.seq (.reg [⟨(some 20), (.mv (.tmp 0)), none, false, []⟩, ⟨(some 21), (.mv (.tmp 2)), none, false, []⟩, ⟨(some 22), (.mv (.tmp 10)), none, false, []⟩, ⟨(some 23), (.bin .add (.tmp 21) (.tmp 22)), none, false, []⟩, ⟨(some 24), (.iaddr 1 (.tmp 20) (.tmp 23)), none, false, []⟩, ⟨(some 25), (.load false 1 (.tmp 24)), none, false, []⟩, ⟨(some 26), (.mv (.tmp 11)), none, false, []⟩, ⟨(some 27), (.mv (.tmp 3)), none, false, []⟩, ⟨(some 28), (.bin .mul (.tmp 26) (.tmp 27)), none, false, []⟩, ⟨(some 29), (.bin .rem (.tmp 28) (.const (.int .i64 1000000000))), none, false, []⟩, ⟨(some 30), (.bin .sub (.tmp 25) (.tmp 29)), none, false, []⟩, ⟨(some 31), (.mv (.tmp 9)), none, false, []⟩, ⟨(some 32), (.bin .sub (.tmp 30) (.tmp 31)), none, false, []⟩, ⟨(some 12), (.mv (.tmp 32)), none, false, []⟩]) (.seq (.reg [⟨(some 33), (.mv (.tmp 11)), none, false, []⟩, ⟨(some 34), (.mv (.tmp 3)), none, false, []⟩, ⟨(some 35), (.bin .mul (.tmp 33) (.tmp 34)), none, false, []⟩, ⟨(some 36), (.bin .quo (.tmp 35) (.const (.int .i64 1000000000))), none, false, []⟩, ⟨(some 9), (.mv (.tmp 36)), none, false, []⟩]) (.seq (.seq (.reg [⟨(some 37), (.mv (.tmp 12)), none, false, []⟩, ⟨(some 38), (.bin .lss (.tmp 37) (.const (.int .i64 0))), none, false, []⟩]) (.cond (.tmp 38) (.seq (.reg [⟨(some 39), (.mv (.tmp 12)), none, false, []⟩, ⟨(some 40), (.bin .add (.tmp 39) (.const (.int .i64 1000000000))), none, false, []⟩, ⟨(some 12), (.mv (.tmp 40)), none, false, []⟩]) (.seq (.reg [⟨(some 41), (.mv (.tmp 9)), none, false, []⟩, ⟨(some 42), (.bin .add (.tmp 41) (.const (.int .i64 1))), none, false, []⟩, ⟨(some 9), (.mv (.tmp 42)), none, false, []⟩]) (.seq (.reg [⟨(some 43), (.mv (.tmp 12)), none, false, []⟩, ⟨(some 44), (.bin .lss (.tmp 43) (.const (.int .i64 0))), none, false, []⟩]) (.cond (.tmp 44) (.seq (.reg [⟨(some 45), (.mv (.tmp 12)), none, false, []⟩, ⟨(some 46), (.bin .add (.tmp 45) (.const (.int .i64 1000000000))), none, false, []⟩, ⟨(some 12), (.mv (.tmp 46)), none, false, []⟩]) (.reg [⟨(some 47), (.mv (.tmp 9)), none, false, []⟩, ⟨(some 48), (.bin .add (.tmp 47) (.const (.int .i64 1))), none, false, []⟩, ⟨(some 9), (.mv (.tmp 48)), none, false, []⟩])) .skip)))) .skip)) (.reg [⟨(some 49), (.mv (.tmp 0)), none, false, []⟩, ⟨(some 50), (.mv (.tmp 2)), none, false, []⟩, ⟨(some 51), (.mv (.tmp 10)), none, false, []⟩, ⟨(some 52), (.bin .add (.tmp 50) (.tmp 51)), none, false, []⟩, ⟨(some 53), (.mv (.tmp 12)), none, false, []⟩, ⟨(some 54), (.iaddr 1 (.tmp 49) (.tmp 52)), none, false, []⟩, ⟨none, (.store 1 (.tmp 54) (.tmp 53)), none, false, []⟩])))))) (.reg [⟨(some 55), (.bin .add (.tmp 15) (.const (.int .i64 1))), none, false, []⟩, ⟨(some 15), (.mv (.tmp 55)), none, false, []⟩]))))
def spec_l01TakeOff_c : PCode := (.seq (.reg [⟨(some 8), (.mv (.const (.bool false))), none, false, []⟩]) (.seq (.reg [⟨(some 9), (.mv (.const (.int .i64 0))), none, false, []⟩]) (.seq (.seq (.reg [⟨(some 13), (.mv (.tmp 1)), none, false, []⟩, ⟨(some 14), (.len (.tmp 13)), none, false, []⟩, ⟨(some 15), (.mv (.const (.int .i64 0))), none, false, []⟩]) (.block 0 (.loop spec_l01TakeOff_b0))) (.seq (.reg [⟨(some 56), (.mv (.tmp 0)), none, false, []⟩, ⟨(some 57), (.mv (.tmp 2)), none, false, []⟩, ⟨(some 58), (.mv (.tmp 1)), none, false, []⟩, ⟨(some 59), (.len (.tmp 58)), none, false, []⟩, ⟨(some 60), (.bin .add (.tmp 57) (.tmp 59)), none, false, []⟩, ⟨(some 61), (.iaddr 1 (.tmp 56) (.tmp 60)), none, false, []⟩, ⟨(some 62), (.load false 1 (.tmp 61)), none, false, []⟩, ⟨(some 63), (.mv (.tmp 9)), none, false, []⟩, ⟨(some 64), (.bin .sub (.tmp 62) (.tmp 63)), none, false, []⟩, ⟨(some 65), (.iaddr 1 (.tmp 56) (.tmp 60)), none, false, []⟩, ⟨none, (.store 1 (.tmp 65) (.tmp 64)), none, false, []⟩]) (.seq (.reg [⟨(some 66), (.mv (.tmp 0)), none, false, []⟩, ⟨(some 67), (.mv (.tmp 2)), none, false, []⟩, ⟨(some 68), (.mv (.tmp 1)), none, false, []⟩, ⟨(some 69), (.len (.tmp 68)), none, false, []⟩, ⟨(some 70), (.bin .add (.tmp 67) (.tmp 69)), none, false, []⟩, ⟨(some 71), (.iaddr 1 (.tmp 66) (.tmp 70)), none, false, []⟩, ⟨(some 72), (.load false 1 (.tmp 71)), none, false, []⟩, ⟨(some 73), (.bin .lss (.tmp 72) (.const (.int .i64 0))), none, false, []⟩, ⟨(some 8), (.mv (.tmp 73)), none, false, []⟩]) .ret)))))
def spec_l01TakeOff : PFunc := ⟨74, [(.tmp 8)], spec_l01TakeOff_c⟩
theorem spec_l01TakeOff_t : tab 156 = some spec_l01TakeOff := by kernel_rfl
def spec_l01PutBack_b0 : PCode := (.seq (.reg [⟨(some 13), (.bin .lss (.tmp 12) (.tmp 11)), none, false, []⟩]) (.seq (.cond (.tmp 13) .skip (.exit 0)) (.seq (.block 1 (.seq (.reg [⟨(some 14), (.mv (.tmp 12)), none, false, []⟩, ⟨(some 15), (.iaddr 1 (.tmp 10) (.tmp 12)), none, false, []⟩, ⟨(some 16), (.load false 1 (.tmp 15)), none, false, []⟩, ⟨(some 7), (.mv (.tmp 14)), none, false, []⟩, ⟨(some 8), (.mv (.tmp 16)), none, false, []⟩]) (.seq (.reg [⟨(some 17), (.mv (.tmp 0)), none, false, []⟩, ⟨(some 18), (.mv (.tmp 2)), none, false, []⟩, ⟨(some 19), (.mv (.tmp 7)), none, false, []⟩, ⟨(some 20), (.bin .add (.tmp 18) (.tmp 19)), none, false, []⟩, ⟨(some 21), (.iaddr 1 (.tmp 17) (.tmp 20)), none, false, []⟩, ⟨(some 22), (.load false 1 (.tmp 21)), none, false, []⟩, ⟨(some 23), (.mv (.tmp 8)), none, false, []⟩, ⟨(some 24), (.bin .add (.tmp 22) (.tmp 23)), none, false, []⟩, ⟨(some 25), (.mv (.tmp 6)), none, false, []⟩, ⟨(some 26), (.bin .add (.tmp 24) (.tmp 25)), none, false, []⟩, ⟨(some 9), (.mv (.tmp 26)), none, false, []⟩]) (.seq (.reg [⟨(some 27), (.mv (.tmp 9)), none, false, []⟩, ⟨(some 28), (.bin .quo (.tmp 27) (.const (.int .i64 1000000000))), none, false, []⟩, ⟨(some 6), (.mv (.tmp 28)), none, false, []⟩]) (.reg [⟨(some 29), (.mv (.tmp 0)), none, false, []⟩, ⟨(some 30), (.mv (.tmp 2)), none, false, []⟩, ⟨(some 31), (.mv (.tmp 7)), none, false, []⟩, ⟨(some 32), (.bin .add (.tmp 30) (.tmp 31)), none, false, []⟩, ⟨(some 33), (.mv (.tmp 9)), none, false, []⟩, ⟨(some 34), (.bin .rem (.tmp 33) (.const (.int .i64 1000000000))), none, false, []⟩, ⟨(some 35), (.iaddr 1 (.tmp 29) (.tmp 32)), none, false, []⟩, ⟨none, (.store 1 (.tmp 35) (.tmp 34)), none, false, []⟩]))))) (.reg [⟨(some 36), (.bin .add (.tmp 12) (.const (.int .i64 1))), none, false, []⟩, ⟨(some 12), (.mv (.tmp 36)), none, false, []⟩]))))
def spec_l01PutBack_c : PCode := (.seq (.reg [⟨(some 6), (.mv (.const (.int .i64 0))), none, false, []⟩]) (.seq (.seq (.reg [⟨(some 10), (.mv (.tmp 1)), none, false, []⟩, ⟨(some 11), (.len (.tmp 10)), none, false, []⟩, ⟨(some 12), (.mv (.const (.int .i64 0))), none, false, []⟩]) (.block 0 (.loop spec_l01PutBack_b0))) (.reg [⟨(some 37), (.mv (.tmp 0)), none, false, []⟩, ⟨(some 38), (.mv (.tmp 2)), none, false, []⟩, ⟨(some 39), (.mv (.tmp 1)), none, false, []⟩, ⟨(some 40), (.len (.tmp 39)), none, false, []⟩, ⟨(some 41), (.bin .add (.tmp 38) (.tmp 40)), none, false, []⟩, ⟨(some 42), (.iaddr 1 (.tmp 37) (.tmp 41)), none, false, []⟩, ⟨(some 43), (.load false 1 (.tmp 42)), none, false, []⟩, ⟨(some 44), (.mv (.tmp 6)), none, false, []⟩, ⟨(some 45), (.bin .add (.tmp 43) (.tmp 44)), none, false, []⟩, ⟨(some 46), (.iaddr 1 (.tmp 37) (.tmp 41)), none, false, []⟩, ⟨none, (.store 1 (.tmp 46) (.tmp 45)), none, false, []⟩])))
def spec_l01PutBack : PFunc := ⟨47, [], spec_l01PutBack_c⟩
theorem spec_l01PutBack_t : tab 157 = some spec_l01PutBack := by kernel_rfl
def spec_l01Dec_b0 : PCode := (.seq (.seq (.reg [⟨(some 8), (.mv (.tmp 3)), none, false, []⟩, ⟨(some 9), (.len (.tmp 8)), none, false, []⟩, ⟨(some 10), (.bin .eql (.tmp 9) (.const (.int .i64 0))), none, false, []⟩, ⟨(some 11), (.mv (.tmp 10)), none, false, []⟩, ⟨(some 12), (.mv (.tmp 4)), (some (11, false)), false, []⟩, ⟨(some 13), (.bin .neq (.tmp 12) (.const (.int .i64 0))), (some (11, false)), false, []⟩, ⟨(some 14), (.pick (.tmp 11) (.const (.bool true)) (.tmp 13)), none, false, []⟩]) (.cond (.tmp 14) .skip (.exit 0))) (.block 1 (.seq (.reg [⟨(some 15), (.mv (.tmp 4)), none, false, []⟩, ⟨(some 16), (.bin .rem (.tmp 15) (.const (.int .i64 10))), none, false, []⟩, ⟨(some 5), (.mv (.tmp 16)), none, false, []⟩]) (.seq (.seq (.reg [⟨(some 17), (.mv (.tmp 5)), none, false, []⟩, ⟨(some 18), (.bin .lss (.tmp 17) (.const (.int .i64 0))), none, false, []⟩]) (.cond (.tmp 18) (.reg [⟨(some 19), (.mv (.tmp 5)), none, false, []⟩, ⟨(some 20), (.un .neg (.tmp 19)), none, false, []⟩, ⟨(some 5), (.mv (.tmp 20)), none, false, []⟩]) .skip)) (.seq (.reg [⟨(some 21), (.mv (.tmp 5)), none, false, []⟩, ⟨(some 22), (.bin .add (.const (.int .i64 48)) (.tmp 21)), none, false, []⟩, ⟨(some 23), (.cvt .u8 (.tmp 22)), none, false, []⟩, ⟨(some 24), (.lit [(.int .u8 0)] 1 [(0, (.tmp 23))]), none, false, []⟩, ⟨(some 25), (.mv (.tmp 3)), none, false, []⟩, ⟨(some 26), (.app 1 1 (.tmp 24) (.tmp 25)), none, false, []⟩, ⟨(some 3), (.mv (.tmp 26)), none, false, []⟩]) (.reg [⟨(some 27), (.mv (.tmp 4)), none, false, []⟩, ⟨(some 28), (.bin .quo (.tmp 27) (.const (.int .i64 10))), none, false, []⟩, ⟨(some 4), (.mv (.tmp 28)), none, false, []⟩]))))))
def spec_l01Dec_c : PCode := (.seq (.reg [⟨(some 2), (.mv (.const (.string ⟨#[]⟩))), none, false, []⟩]) (.seq (.reg [⟨(some 6), (.lit [(.int .u8 0)] 0 []), none, false, []⟩, ⟨(some 3), (.mv (.tmp 6)), none, false, []⟩]) (.seq (.reg [⟨(some 7), (.mv (.tmp 0)), none, false, []⟩, ⟨(some 4), (.mv (.tmp 7)), none, false, []⟩]) (.seq (.block 0 (.loop spec_l01Dec_b0)) (.seq (.seq (.reg [⟨(some 29), (.mv (.tmp 0)), none, false, []⟩, ⟨(some 30), (.bin .lss (.tmp 29) (.const (.int .i64 0))), none, false, []⟩]) (.cond (.tmp 30) (.reg [⟨(some 31), (.lit [(.int .u8 0)] 1 [(0, (.const (.int .u8 45)))]), none, false, []⟩, ⟨(some 32), (.mv (.tmp 3)), none, false, []⟩, ⟨(some 33), (.app 1 1 (.tmp 31) (.tmp 32)), none, false, []⟩, ⟨(some 3), (.mv (.tmp 33)), none, false, []⟩]) .skip)) (.seq (.reg [⟨(some 34), (.mv (.tmp 3)), none, false, []⟩, ⟨(some 35), (.b2s (.tmp 34)), none, false, []⟩, ⟨(some 2), (.mv (.tmp 35)), none, false, []⟩]) .ret))))))
def spec_l01Dec : PFunc := ⟨36, [(.tmp 2)], spec_l01Dec_c⟩
theorem spec_l01Dec_t : tab 83 = some spec_l01Dec := by kernel_rfl
def spec_l01DrawGreat_b0 : PCode := (.seq (.seq (.reg [⟨(some 16), (.mv (.tmp 5)), none, false, []⟩, ⟨(some 17), (.bin .gtr (.tmp 16) (.const (.int .i64 0))), none, false, []⟩]) (.cond (.tmp 17) .skip (.exit 0))) (.seq (.block 1 (.seq (.reg [⟨(some 20), (.mv (.tmp 3)), none, false, []⟩, ⟨(some 21), (.mv (.tmp 0)), none, false, []⟩, ⟨(some 22), (.call 86 [(.tmp 21), (.const (.int .i64 1000000000))]), none, false, []⟩, ⟨(some 23), (.bin .add (.const (.int .i64 1)) (.tmp 22)), none, false, []⟩, ⟨(some 24), (.call 108 [(.tmp 23)]), none, false, []⟩, ⟨(some 25), (.call 105 [(.tmp 20), (.tmp 24)]), none, false, []⟩, ⟨(some 3), (.mv (.tmp 25)), none, false, []⟩]) (.reg [⟨(some 26), (.mv (.tmp 4)), none, false, []⟩, ⟨(some 27), (.mv (.tmp 0)), none, false, []⟩, ⟨(some 28), (.call 86 [(.tmp 27), (.const (.int .i64 1000000000))]), none, false, []⟩, ⟨(some 29), (.bin .add (.const (.int .i64 2)) (.tmp 28)), none, false, []⟩, ⟨(some 30), (.call 108 [(.tmp 29)]), none, false, []⟩, ⟨(some 31), (.call 105 [(.tmp 26), (.tmp 30)]), none, false, []⟩, ⟨(some 4), (.mv (.tmp 31)), none, false, []⟩]))) (.reg [⟨(some 18), (.mv (.tmp 5)), none, false, []⟩, ⟨(some 19), (.bin .sub (.tmp 18) (.const (.int .i64 1))), none, false, []⟩, ⟨(some 5), (.mv (.tmp 19)), none, false, []⟩])))
def spec_l01DrawGreat_c : PCode := (.seq (.reg [⟨(some 2), (.mv (.const (.string ⟨#[]⟩))), none, false, []⟩]) (.seq (.reg [⟨(some 6), (.mv (.tmp 0)), none, false, []⟩, ⟨(some 7), (.call 86 [(.tmp 6), (.const (.int .i64 1000000000))]), none, false, []⟩, ⟨(some 8), (.bin .add (.const (.int .i64 1)) (.tmp 7)), none, false, []⟩, ⟨(some 9), (.call 108 [(.tmp 8)]), none, false, []⟩, ⟨(some 3), (.mv (.tmp 9)), none, false, []⟩]) (.seq (.reg [⟨(some 10), (.mv (.tmp 0)), none, false, []⟩, ⟨(some 11), (.call 86 [(.tmp 10), (.const (.int .i64 1000000000))]), none, false, []⟩, ⟨(some 12), (.bin .add (.const (.int .i64 2)) (.tmp 11)), none, false, []⟩, ⟨(some 13), (.call 108 [(.tmp 12)]), none, false, []⟩, ⟨(some 4), (.mv (.tmp 13)), none, false, []⟩]) (.seq (.seq (.reg [⟨(some 14), (.mv (.tmp 0)), none, false, []⟩, ⟨(some 15), (.call 86 [(.tmp 14), (.const (.int .i64 6))]), none, false, []⟩, ⟨(some 5), (.mv (.tmp 15)), none, false, []⟩]) (.block 0 (.loop spec_l01DrawGreat_b0))) (.seq (.reg [⟨(some 32), (.mv (.tmp 0)), none, false, []⟩, ⟨(some 33), (.call 84 [(.tmp 32), (.const (.int .i64 2))]), none, false, []⟩, ⟨(some 34), (.mv (.tmp 3)), none, false, []⟩, ⟨(some 35), (.mv (.tmp 4)), none, false, []⟩, ⟨(some 36), (.call 97 [(.tmp 33), (.tmp 34), (.tmp 35)]), none, false, []⟩, ⟨(some 37), (.call 126 [(.tmp 36)]), none, false, []⟩, ⟨(some 2), (.mv (.tmp 37)), none, false, []⟩]) .ret)))))
def spec_l01DrawGreat : PFunc := ⟨38, [(.tmp 2)], spec_l01DrawGreat_c⟩
theorem spec_l01DrawGreat_t : tab 85 = some spec_l01DrawGreat := by kernel_rfl
def spec_l01Of_c : PCode := (.seq (.reg [⟨(some 4), (.mv (.const (.string ⟨#[]⟩))), none, false, []⟩]) (.seq (.reg [⟨(some 5), (.mv (.tmp 0)), none, false, []⟩, ⟨(some 6), (.call 54 [(.tmp 5)]), none, false, []⟩, ⟨(some 7), (.mv (.tmp 1)), none, false, []⟩, ⟨(some 8), (.call 54 [(.tmp 7)]), none, false, []⟩, ⟨(some 9), (.call 55 [(.tmp 6), (.tmp 8)]), none, false, []⟩, ⟨(some 10), (.call 126 [(.tmp 9)]), none, false, []⟩, ⟨(some 4), (.mv (.tmp 10)), none, false, []⟩]) .ret))
def spec_l01Of : PFunc := ⟨11, [(.tmp 4)], spec_l01Of_c⟩
theorem spec_l01Of_t : tab 87 = some spec_l01Of := by kernel_rfl
end Go.PM
/- Digits by their places: plain laws. -/
namespace Go.PM
section
variable {b : Nat}
theorem digs_getD (hb : 2 ≤ b) (n i : Nat) : (digs b n).getD i 0 = n / b ^ i % b := by
  induction i generalizing n with
  | zero =>
    by_cases h : n = 0
    · subst h; simp [digs_zero]
    · rw [digs_pos hb h, List.getD_cons_zero, Nat.pow_zero, Nat.div_one]
  | succ i ih =>
    by_cases h : n = 0
    · subst h; simp [digs_zero]
    · rw [digs_pos hb h, List.getD_cons_succ, ih, Nat.div_div_eq_div_mul, Nat.pow_succ, Nat.mul_comm b]
theorem digs_at (hb : 2 ≤ b) {n i : Nat} : i < (digs b n).length ↔ n / b ^ i ≠ 0 := by
  induction i generalizing n with
  | zero =>
    rw [Nat.pow_zero, Nat.div_one, List.length_pos_iff]
    exact not_congr (digs_nil hb)
  | succ i ih =>
    by_cases h : n = 0
    · subst h; simp [digs_zero]
    · rw [digs_pos hb h, List.length_cons, Nat.add_lt_add_iff_right, ih, Nat.div_div_eq_div_mul, Nat.pow_succ, Nat.mul_comm b]
theorem digs_get (hb : 2 ≤ b) {n i : Nat} (h : i < (digs b n).length) : (digs b n)[i]? = some (n / b ^ i % b) := by
  rw [← digs_getD hb, List.getD_eq_getElem?_getD, List.getElem?_eq_getElem h]
  rfl
theorem digs_drop (hb : 2 ≤ b) (n i : Nat) : (digs b n).drop i = digs b (n / b ^ i) := by
  induction i generalizing n with
  | zero => simp
  | succ i ih =>
    by_cases h : n = 0
    · subst h; simp [digs_zero]
    · rw [digs_pos hb h, List.drop_succ_cons, ih, Nat.div_div_eq_div_mul, Nat.pow_succ, Nat.mul_comm b]
theorem div_pow_succ (n i : Nat) : n / b ^ (i + 1) = n / b ^ i / b := by rw [Nat.div_div_eq_div_mul, Nat.pow_succ]
theorem digs_cons (hb : 2 ≤ b) {n d q : Nat} (hn : n ≠ 0) (h : n = d + b * q) (hd : d < b) : digs b n = d :: digs b q := by
  rw [digs_pos hb hn, h, Nat.add_mul_mod_self_left, Nat.mod_eq_of_lt hd, Nat.add_mul_div_left _ _ (by omega), Nat.div_eq_of_lt hd, Nat.zero_add]
theorem mul_place (hb : 2 ≤ b) {x d c : Nat} (h : x * d + c ≠ 0) : digs b (x * d + c) = (x % b * d + c) % b :: digs b (x / b * d + (x % b * d + c) / b) := by
  refine digs_cons hb h ?_ (Nat.mod_lt _ (by omega))
  have h1 := Nat.mod_add_div x b
  have h3 := Nat.mod_add_div (x % b * d + c) b
  have e : b * (x / b * d + (x % b * d + c) / b) = b * (x / b) * d + b * ((x % b * d + c) / b) := by grind
  have e2 : x * d = x % b * d + b * (x / b) * d := by
    conv => lhs; rw [← h1, Nat.add_mul]
  omega
theorem digs_len_mul (hb : 2 ≤ b) (m n : Nat) : (digs b (m * n)).length ≤ (digs b m).length + (digs b n).length := by
  refine digs_len_le hb ?_
  rw [Nat.pow_add]
  exact Nat.mul_lt_mul'' (digs_len_lt hb m) (digs_len_lt hb n)
theorem digs_single (hb : 2 ≤ b) {c : Nat} (h : c ≠ 0) (hc : c < b) : digs b c = [c] := by
  rw [digs_pos hb h, Nat.mod_eq_of_lt hc, Nat.div_eq_of_lt hc, digs_zero]
end
end Go.PM
