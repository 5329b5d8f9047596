/- Texts of a claim, in one: part 12. -/
import Derived.KernelRfl
import Derived.Lib.LaidTab
import Derived.LaidLaws
import Derived.LaidMore
import Derived.MakeChecks
import Derived.Handed
import Derived.Test.YtbgfeiagaieljaaGreatDoorKFk
/- Room for some: results; the program, walked. -/
set_option linter.unusedSimpArgs false
set_option linter.unusedVariables false
namespace Go.PM
section
variable {srv room : Int} {cs : List Cust}
def keptB (srv room : Int) (cs : List Cust) (i : Nat) : Bool := decide (i ∈ spK srv room cs (i + 1))
theorem spK_pre : ∀ {i n : Nat}, i ≤ n → spK srv room cs i <+: spK srv room cs n := by
  intro i n h
  induction n with
  | zero =>
    have : i = 0 := by omega
    subst this
    exact List.prefix_refl _
  | succ n ih =>
    rcases Nat.lt_or_ge i (n + 1) with h1 | h1
    · refine (ih (by omega)).trans ?_
      rw [show spK srv room cs (n + 1) = if room ≤ (cntL srv (subC cs (spK srv room cs n)) (atC cs n) : Int) then spK srv room cs n else spK srv room cs n ++ [n] from rfl]
      split
      · exact List.prefix_refl _
      · exact List.prefix_append _ _
    · have : i = n + 1 := by omega
      subst this
      exact List.prefix_refl _
theorem spK_one (i : Nat) : spK srv room cs (i + 1) = if keptB srv room cs i = true then spK srv room cs i ++ [i] else spK srv room cs i := by
  have h0 : spK srv room cs (i + 1) = if room ≤ (cntL srv (subC cs (spK srv room cs i)) (atC cs i) : Int) then spK srv room cs i else spK srv room cs i ++ [i] := rfl
  have hn : i ∉ spK srv room cs i := fun h => Nat.lt_irrefl _ (spK_mem h)
  unfold keptB
  by_cases hc : room ≤ (cntL srv (subC cs (spK srv room cs i)) (atC cs i) : Int)
  · rw [if_pos hc] at h0
    rw [h0, decide_eq_false hn, if_neg (by decide)]
  · rw [if_neg hc] at h0
    rw [h0, decide_eq_true (List.mem_append_right _ List.mem_cons_self), if_pos rfl]
theorem keptB_mem {i n : Nat} (h : i < n) : i ∈ spK srv room cs n ↔ keptB srv room cs i = true := by
  unfold keptB
  rw [decide_eq_true_eq]
  refine ⟨fun hm => ?_, fun hm => (spK_pre (by omega : i + 1 ≤ n)).subset hm⟩
  induction n with
  | zero => omega
  | succ n ih =>
    rcases Nat.lt_or_ge i n with h1 | h1
    · refine ih h1 ?_
      rw [spK_one] at hm
      split at hm
      · rcases List.mem_append.1 hm with h2 | h2
        · exact h2
        · rw [List.mem_singleton] at h2; omega
      · exact hm
    · have : i = n := by omega
      subst this
      exact hm
theorem kept_at {i n : Nat} (h : i < n) (hk : keptB srv room cs i = true) : (spK srv room cs n)[(spK srv room cs i).length]? = some i := by
  obtain ⟨l, hl⟩ := spK_pre (srv := srv) (room := room) (cs := cs) (by omega : i + 1 ≤ n)
  rw [spK_one, if_pos hk] at hl
  rw [← hl, List.append_assoc, List.getElem?_append_right (Nat.le_refl _), Nat.sub_self]
  rfl
def rmS (srv room : Int) (cs : List Cust) : List Int := stL 0 srv (subC cs (spK srv room cs cs.length))
def rmAt (srv room : Int) (cs : List Cust) (i : Nat) : Int := if keptB srv room cs i = true then stC (rmS srv room cs) (spK srv room cs i).length + wkC cs i else -1
def rmLv (srv room : Int) (cs : List Cust) : List Int := (List.range cs.length).map (rmAt srv room cs)
theorem rmS_ok (hc : custsOk cs) (hs : 1 ≤ srv) {i : Nat} (hi : i < cs.length) (hk : keptB srv room cs i = true) : (spK srv room cs i).length < (subC cs (spK srv room cs cs.length)).length ∧ 0 ≤ stC (rmS srv room cs) (spK srv room cs i).length ∧ stC (rmS srv room cs) (spK srv room cs i).length ≤ 100000 := by
  have h1 := (List.getElem?_eq_some_iff.1 (kept_at hi hk)).1
  have h24 := hc.2
  have h2 := spK_len (srv := srv) (room := room) (cs := cs) cs.length
  have hK : custsOk (subC cs (spK srv room cs cs.length)) := sub_ok hc (spK_inc _) (fun j hj => spK_mem hj) (by omega)
  have hl : (spK srv room cs i).length < (subC cs (spK srv room cs cs.length)).length := by rw [subC_len]; exact h1
  refine ⟨hl, stL_pos hK ⟨by decide, by decide⟩ hs _ hl, ?_⟩
  unfold rmS
  have h3 : (stL 0 srv (subC cs (spK srv room cs cs.length)))[(spK srv room cs i).length]? = some _ := List.getElem?_eq_getElem (by rw [stL_len]; exact hl)
  rw [stC_of h3]
  exact (stL_mem _ (List.mem_of_getElem? h3)).2
theorem RmEnd.at {st : List Int} (h : RmEnd srv room cs st) {i : Nat} (hi : i < cs.length) : stC st i = if keptB srv room cs i = true then stC (rmS srv room cs) (spK srv room cs i).length else -1 := by
  split
  · rename_i hk
    unfold rmS
    rw [← h.kept, stC_sKo (kept_at hi hk)]
  · rename_i hk
    exact h.lost i hi fun hm => hk ((keptB_mem hi).1 hm)
theorem RmEnd.leaves {st : List Int} (h : RmEnd srv room cs st) (hc : custsOk cs) (hs : 1 ≤ srv) : mvI (·.w) cs st = rmLv srv room cs := by
  apply List.ext_getElem?
  intro i
  by_cases hi : i < cs.length
  · have hx : cs[i]? = some cs[i] := List.getElem?_eq_getElem hi
    obtain ⟨s0, hs'⟩ : ∃ s0, st[i]? = some s0 := ⟨_, List.getElem?_eq_getElem (by rw [h.sl]; exact hi)⟩
    rw [mvI_get hx hs', rmLv, List.getElem?_map, List.getElem?_range hi]
    simp only [Option.map_some]
    congr 1
    have h1 := h.at hi
    rw [stC_of hs'] at h1
    unfold rmAt
    by_cases hk : keptB srv room cs i = true
    · have h2 := (rmS_ok hc hs hi hk).2.1
      rw [if_pos hk] at h1 ⊢
      rw [h1, if_pos h2, wkC_of hx]
    · rw [if_neg hk] at h1 ⊢
      rw [h1, if_neg (by decide)]
  · rw [List.getElem?_eq_none (by rw [mvI_len h.sl]; omega), List.getElem?_eq_none (by simp [rmLv]; omega)]
theorem RmEnd.neg {st : List Int} (h : RmEnd srv room cs st) (hc : custsOk cs) (hs : 1 ≤ srv) {i : Nat} {s : Int} (hi : st[i]? = some s) : (s < 0 ↔ ¬ keptB srv room cs i = true) ∧ s ≤ 100000 := by
  have hil : i < cs.length := by rw [← h.sl]; exact (List.getElem?_eq_some_iff.1 hi).1
  have h1 := h.at hil
  rw [stC_of hi] at h1
  by_cases hk : keptB srv room cs i = true
  · have h2 := (rmS_ok hc hs hil hk).2
    rw [if_pos hk] at h1
    exact ⟨⟨fun h => by omega, fun h => absurd hk h⟩, by omega⟩
  · rw [if_neg hk] at h1
    exact ⟨⟨fun _ => hk, fun _ => by omega⟩, by omega⟩
end
def rmOk (srv room : Int) (cs : List Cust) : Prop := stOk 0 srv cs ∧ (srv ≤ room ∧ room ≤ 24)
noncomputable instance (srv room : Int) (cs : List Cust) : Decidable (rmOk srv room cs) := Classical.propDecidable _
end Go.PM
/- Starts, leaves and waits: the program and the reference, walked. -/
namespace Go.PM
theorem LR.of {vals : List Int} {ok : Bool} {n : Nat} {r : VV} {L : VHeap} (h : stR vals n r L) : LR vals ok n (.tup [r, .sc (.bool ok)]) L := ⟨r, rfl, .inr ⟨0, 0, vals.length, h.1, Nat.le_refl _, h.2⟩⟩
end Go.PM
/- Leaves and waits: the program and the reference, walked. -/
namespace Go.PM
theorem LR.fz {vals : List Int} {ok : Bool} {n : Nat} {v : VV} {L : VHeap} (h : (v = .tree [] .nil ∧ vals = []) ∨ ∃ i g c, v = .ref (n + i) g 0 vals.length c ∧ vals.length ≤ c ∧ L[i]? = some (.row g (vals.map nV) 1 true)) : PM.fz depth (List.replicate n VBlk.dead ++ L) v = some (numsV vals) := by
  rcases h with ⟨rfl, rfl⟩ | ⟨i, g, c, rfl, h2, h3⟩
  · exact fz_niltree
  · exact fz_live (fun _ => rfl) (by rw [vrow_Dk]; exact vrow_some.2 h3) h2
end Go.PM
/- Limits: plain words. -/
namespace Go.PM
section
variable {srv room : Int} {cs : List Cust}
end
end Go.PM
/- One server, first come first: plain words. -/
namespace Go.PM
section
variable {cs : List Cust}
end
end Go.PM
/- Room for some: the reference, walked. -/
namespace Go.PM
end Go.PM
/- Two lists of numbers that are handed back: compared, marked, held. -/
namespace Go.PM
def Apart (v w : VV) : Prop := ∀ b g n c g' n' c', v = .ref b g 0 n c → w ≠ .ref b g' 0 n' c'
theorem Apart.symm {v w : VV} (h : Apart v w) : Apart w v := fun b g n c g' n' c' h1 h2 => h b g' n' c' g n c h2 h1
end Go.PM
/- The pure machine's form of functions, as the settings give it: LX. -/
namespace Go.PM
def laws_FnFractions_c : PCode := (.seq (.reg [⟨(some 4), (.mv (.const (.bool false))), none, false, []⟩]) (.seq (.seq (.reg [⟨(some 30), (.mv (.tmp 0)), none, false, []⟩, ⟨(some 31), (.mv (.tmp 1)), none, false, []⟩, ⟨(some 32), (.call 19 [(.tmp 30), (.tmp 31)]), none, false, []⟩]) (.cond (.tmp 32) (.seq (.reg [⟨(some 4), (.mv (.const (.bool true))), none, false, []⟩]) .ret) .skip)) (.seq (.reg [⟨(some 33), (.mv (.tmp 0)), none, false, []⟩, ⟨(some 34), (.call 31 [(.tmp 33)]), none, false, []⟩, ⟨(some 5), (.mv (.tmp 34)), none, false, []⟩]) (.seq (.reg [⟨(some 35), (.mv (.tmp 1)), none, false, []⟩, ⟨(some 36), (.call 31 [(.tmp 35)]), none, false, []⟩, ⟨(some 6), (.mv (.tmp 36)), none, false, []⟩]) (.seq (.reg [⟨(some 38), (.mv (.tmp 5)), none, false, []⟩, ⟨(some 39), (.mv (.tmp 6)), none, false, []⟩, ⟨(some 40), (.call 32 [(.tmp 38), (.tmp 39)]), none, false, []⟩, ⟨(some 37), (.mv (.tmp 40)), none, false, []⟩, ⟨(some 41), (.ext (.tmp 37) 0), none, false, []⟩, ⟨(some 42), (.ext (.tmp 37) 1), none, false, []⟩, ⟨(some 7), (.mv (.tmp 41)), none, false, []⟩, ⟨(some 8), (.mv (.tmp 42)), none, false, []⟩]) (.seq (.reg [⟨(some 44), (.mv (.tmp 6)), none, false, []⟩, ⟨(some 45), (.mv (.tmp 5)), none, false, []⟩, ⟨(some 46), (.call 32 [(.tmp 44), (.tmp 45)]), none, false, []⟩, ⟨(some 43), (.mv (.tmp 46)), none, false, []⟩, ⟨(some 47), (.ext (.tmp 43) 0), none, false, []⟩, ⟨(some 48), (.ext (.tmp 43) 1), none, false, []⟩, ⟨(some 9), (.mv (.tmp 47)), none, false, []⟩, ⟨(some 10), (.mv (.tmp 48)), none, false, []⟩]) (.seq (.reg [⟨(some 50), (.mv (.tmp 7)), none, false, []⟩, ⟨(some 51), (.mv (.tmp 6)), none, false, []⟩, ⟨(some 52), (.call 33 [(.tmp 50), (.tmp 51)]), none, false, []⟩, ⟨(some 49), (.mv (.tmp 52)), none, false, []⟩, ⟨(some 53), (.ext (.tmp 49) 0), none, false, []⟩, ⟨(some 54), (.ext (.tmp 49) 1), none, false, []⟩, ⟨(some 11), (.mv (.tmp 53)), none, false, []⟩, ⟨(some 12), (.mv (.tmp 54)), none, false, []⟩]) (.seq (.reg [⟨(some 56), (.mv (.tmp 5)), none, false, []⟩, ⟨(some 57), (.mv (.tmp 6)), none, false, []⟩, ⟨(some 58), (.call 34 [(.tmp 56), (.tmp 57)]), none, false, []⟩, ⟨(some 55), (.mv (.tmp 58)), none, false, []⟩, ⟨(some 59), (.ext (.tmp 55) 0), none, false, []⟩, ⟨(some 60), (.ext (.tmp 55) 1), none, false, []⟩, ⟨(some 13), (.mv (.tmp 59)), none, false, []⟩, ⟨(some 14), (.mv (.tmp 60)), none, false, []⟩]) (.seq (.reg [⟨(some 62), (.mv (.tmp 6)), none, false, []⟩, ⟨(some 63), (.mv (.tmp 5)), none, false, []⟩, ⟨(some 64), (.call 34 [(.tmp 62), (.tmp 63)]), none, false, []⟩, ⟨(some 61), (.mv (.tmp 64)), none, false, []⟩, ⟨(some 65), (.ext (.tmp 61) 0), none, false, []⟩, ⟨(some 66), (.ext (.tmp 61) 1), none, false, []⟩, ⟨(some 15), (.mv (.tmp 65)), none, false, []⟩, ⟨(some 16), (.mv (.tmp 66)), none, false, []⟩]) (.seq (.reg [⟨(some 68), (.mv (.tmp 5)), none, false, []⟩, ⟨(some 69), (.mv (.tmp 6)), none, false, []⟩, ⟨(some 70), (.call 33 [(.tmp 68), (.tmp 69)]), none, false, []⟩, ⟨(some 67), (.mv (.tmp 70)), none, false, []⟩, ⟨(some 71), (.ext (.tmp 67) 0), none, false, []⟩, ⟨(some 72), (.ext (.tmp 67) 1), none, false, []⟩, ⟨(some 17), (.mv (.tmp 71)), none, false, []⟩, ⟨(some 18), (.mv (.tmp 72)), none, false, []⟩]) (.seq (.reg [⟨(some 74), (.mv (.tmp 5)), none, false, []⟩, ⟨(some 75), (.mv (.tmp 6)), none, false, []⟩, ⟨(some 76), (.call 35 [(.tmp 74), (.tmp 75)]), none, false, []⟩, ⟨(some 73), (.mv (.tmp 76)), none, false, []⟩, ⟨(some 77), (.ext (.tmp 73) 0), none, false, []⟩, ⟨(some 78), (.ext (.tmp 73) 1), none, false, []⟩, ⟨(some 19), (.mv (.tmp 77)), none, false, []⟩, ⟨(some 20), (.mv (.tmp 78)), none, false, []⟩]) (.seq (.seq (.reg [⟨(some 79), (.mv (.tmp 8)), none, false, []⟩, ⟨(some 80), (.un .not (.tmp 79)), none, false, []⟩, ⟨(some 81), (.mv (.tmp 80)), none, false, []⟩, ⟨(some 82), (.mv (.tmp 10)), (some (81, false)), false, []⟩, ⟨(some 83), (.un .not (.tmp 82)), (some (81, false)), false, []⟩, ⟨(some 84), (.pick (.tmp 81) (.const (.bool true)) (.tmp 83)), none, false, []⟩, ⟨(some 85), (.mv (.tmp 84)), none, false, []⟩, ⟨(some 86), (.mv (.tmp 12)), (some (85, false)), false, []⟩, ⟨(some 87), (.un .not (.tmp 86)), (some (85, false)), false, []⟩, ⟨(some 88), (.pick (.tmp 85) (.const (.bool true)) (.tmp 87)), none, false, []⟩, ⟨(some 89), (.mv (.tmp 88)), none, false, []⟩, ⟨(some 90), (.mv (.tmp 14)), (some (89, false)), false, []⟩, ⟨(some 91), (.un .not (.tmp 90)), (some (89, false)), false, []⟩, ⟨(some 92), (.pick (.tmp 89) (.const (.bool true)) (.tmp 91)), none, false, []⟩, ⟨(some 93), (.mv (.tmp 92)), none, false, []⟩, ⟨(some 94), (.mv (.tmp 16)), (some (93, false)), false, []⟩, ⟨(some 95), (.un .not (.tmp 94)), (some (93, false)), false, []⟩, ⟨(some 96), (.pick (.tmp 93) (.const (.bool true)) (.tmp 95)), none, false, []⟩, ⟨(some 97), (.mv (.tmp 96)), none, false, []⟩, ⟨(some 98), (.mv (.tmp 18)), (some (97, false)), false, []⟩, ⟨(some 99), (.un .not (.tmp 98)), (some (97, false)), false, []⟩, ⟨(some 100), (.pick (.tmp 97) (.const (.bool true)) (.tmp 99)), none, false, []⟩, ⟨(some 101), (.mv (.tmp 100)), none, false, []⟩, ⟨(some 102), (.mv (.tmp 20)), (some (101, false)), false, []⟩, ⟨(some 103), (.un .not (.tmp 102)), (some (101, false)), false, []⟩, ⟨(some 104), (.pick (.tmp 101) (.const (.bool true)) (.tmp 103)), none, false, []⟩, ⟨(some 105), (.mv (.tmp 104)), none, false, []⟩, ⟨(some 106), (.mv (.tmp 5)), (some (105, false)), false, []⟩, ⟨(some 107), (.call 36 [(.tmp 106)]), (some (105, false)), false, []⟩, ⟨(some 108), (.un .not (.tmp 107)), (some (105, false)), false, []⟩, ⟨(some 109), (.pick (.tmp 105) (.const (.bool true)) (.tmp 108)), none, false, []⟩, ⟨(some 110), (.mv (.tmp 109)), none, false, []⟩, ⟨(some 111), (.mv (.tmp 7)), (some (110, false)), false, []⟩, ⟨(some 112), (.call 36 [(.tmp 111)]), (some (110, false)), false, []⟩, ⟨(some 113), (.un .not (.tmp 112)), (some (110, false)), false, []⟩, ⟨(some 114), (.pick (.tmp 110) (.const (.bool true)) (.tmp 113)), none, false, []⟩, ⟨(some 115), (.mv (.tmp 114)), none, false, []⟩, ⟨(some 116), (.mv (.tmp 13)), (some (115, false)), false, []⟩, ⟨(some 117), (.call 36 [(.tmp 116)]), (some (115, false)), false, []⟩, ⟨(some 118), (.un .not (.tmp 117)), (some (115, false)), false, []⟩, ⟨(some 119), (.pick (.tmp 115) (.const (.bool true)) (.tmp 118)), none, false, []⟩, ⟨(some 120), (.mv (.tmp 119)), none, false, []⟩, ⟨(some 121), (.mv (.tmp 7)), (some (120, false)), false, []⟩, ⟨(some 122), (.mv (.tmp 9)), (some (120, false)), false, []⟩, ⟨(some 123), (.bin .neq (.tmp 121) (.tmp 122)), (some (120, false)), false, []⟩, ⟨(some 124), (.pick (.tmp 120) (.const (.bool true)) (.tmp 123)), none, false, []⟩, ⟨(some 125), (.mv (.tmp 124)), none, false, []⟩, ⟨(some 126), (.mv (.tmp 11)), (some (125, false)), false, []⟩, ⟨(some 127), (.mv (.tmp 5)), (some (125, false)), false, []⟩, ⟨(some 128), (.bin .neq (.tmp 126) (.tmp 127)), (some (125, false)), false, []⟩, ⟨(some 129), (.pick (.tmp 125) (.const (.bool true)) (.tmp 128)), none, false, []⟩, ⟨(some 130), (.mv (.tmp 129)), none, false, []⟩, ⟨(some 131), (.mv (.tmp 13)), (some (130, false)), false, []⟩, ⟨(some 132), (.mv (.tmp 15)), (some (130, false)), false, []⟩, ⟨(some 133), (.bin .neq (.tmp 131) (.tmp 132)), (some (130, false)), false, []⟩, ⟨(some 134), (.pick (.tmp 130) (.const (.bool true)) (.tmp 133)), none, false, []⟩]) (.cond (.tmp 134) (.seq (.reg [⟨(some 4), (.mv (.const (.bool false))), none, false, []⟩]) .ret) .skip)) (.seq (.reg [⟨(some 21), (.mv (.const (.int .i64 1))), none, false, []⟩]) (.seq (.seq (.reg [⟨(some 135), (.mv (.tmp 17)), none, false, []⟩, ⟨(some 136), (.bin .eql (.tmp 135) (.const (.string ⟨#[48]⟩))), none, false, []⟩]) (.cond (.tmp 136) (.reg [⟨(some 21), (.mv (.const (.int .i64 0))), none, false, []⟩]) (.seq (.reg [⟨(some 137), (.mv (.tmp 17)), none, false, []⟩, ⟨(some 138), (.sidx (.tmp 137) (.const (.int .i64 0))), none, false, []⟩, ⟨(some 139), (.bin .eql (.tmp 138) (.const (.int .u8 45))), none, false, []⟩]) (.cond (.tmp 139) (.reg [⟨(some 21), (.mv (.const (.int .i64 (-1)))), none, false, []⟩]) .skip)))) (.seq (.seq (.reg [⟨(some 140), (.mv (.tmp 19)), none, false, []⟩, ⟨(some 141), (.mv (.tmp 21)), none, false, []⟩, ⟨(some 142), (.bin .neq (.tmp 140) (.tmp 141)), none, false, []⟩, ⟨(some 143), (.mv (.tmp 142)), none, false, []⟩, ⟨(some 144), (.mv (.tmp 19)), (some (143, false)), false, []⟩, ⟨(some 145), (.bin .eql (.tmp 144) (.const (.int .i64 0))), (some (143, false)), false, []⟩, ⟨(some 146), (.mv (.tmp 5)), (some (143, false)), false, []⟩, ⟨(some 147), (.mv (.tmp 6)), (some (143, false)), false, []⟩, ⟨(some 148), (.bin .eql (.tmp 146) (.tmp 147)), (some (143, false)), false, []⟩, ⟨(some 149), (.eqb true (.tmp 145) (.tmp 148)), (some (143, false)), false, []⟩, ⟨(some 150), (.pick (.tmp 143) (.const (.bool true)) (.tmp 149)), none, false, []⟩]) (.cond (.tmp 150) (.seq (.reg [⟨(some 4), (.mv (.const (.bool false))), none, false, []⟩]) .ret) .skip)) (.seq (.reg [⟨(some 152), (.mv (.tmp 13)), none, false, []⟩, ⟨(some 153), (.mv (.tmp 6)), none, false, []⟩, ⟨(some 154), (.call 37 [(.tmp 152), (.tmp 153)]), none, false, []⟩, ⟨(some 151), (.mv (.tmp 154)), none, false, []⟩, ⟨(some 155), (.ext (.tmp 151) 0), none, false, []⟩, ⟨(some 156), (.ext (.tmp 151) 1), none, false, []⟩, ⟨(some 22), (.mv (.tmp 155)), none, false, []⟩, ⟨(some 23), (.mv (.tmp 156)), none, false, []⟩]) (.seq (.seq (.reg [⟨(some 157), (.mv (.tmp 23)), none, false, []⟩, ⟨(some 158), (.mv (.tmp 6)), none, false, []⟩, ⟨(some 159), (.bin .neq (.tmp 158) (.const (.string ⟨#[48]⟩))), none, false, []⟩, ⟨(some 160), (.eqb true (.tmp 157) (.tmp 159)), none, false, []⟩, ⟨(some 161), (.mv (.tmp 160)), none, false, []⟩, ⟨(some 162), (.mv (.tmp 23)), (some (161, false)), false, []⟩, ⟨(some 163), (.mv (.tmp 162)), (some (161, false)), false, []⟩, ⟨(some 164), (.mv (.tmp 22)), (some (163, true)), false, []⟩, ⟨(some 165), (.mv (.tmp 5)), (some (163, true)), false, []⟩, ⟨(some 166), (.bin .neq (.tmp 164) (.tmp 165)), (some (163, true)), false, []⟩, ⟨(some 167), (.pick (.tmp 163) (.tmp 166) (.const (.bool false))), (some (161, false)), false, []⟩, ⟨(some 168), (.pick (.tmp 161) (.const (.bool true)) (.tmp 167)), none, false, []⟩]) (.cond (.tmp 168) (.seq (.reg [⟨(some 4), (.mv (.const (.bool false))), none, false, []⟩]) .ret) .skip)) (.seq (.reg [⟨(some 170), (.mv (.tmp 5)), none, false, []⟩, ⟨(some 171), (.call 38 [(.tmp 170), (.const (.int .i64 3))]), none, false, []⟩, ⟨(some 169), (.mv (.tmp 171)), none, false, []⟩, ⟨(some 172), (.ext (.tmp 169) 0), none, false, []⟩, ⟨(some 173), (.ext (.tmp 169) 1), none, false, []⟩, ⟨(some 24), (.mv (.tmp 172)), none, false, []⟩, ⟨(some 25), (.mv (.tmp 173)), none, false, []⟩]) (.seq (.reg [⟨(some 175), (.mv (.tmp 5)), none, false, []⟩, ⟨(some 176), (.mv (.tmp 5)), none, false, []⟩, ⟨(some 177), (.call 34 [(.tmp 175), (.tmp 176)]), none, false, []⟩, ⟨(some 174), (.mv (.tmp 177)), none, false, []⟩, ⟨(some 178), (.ext (.tmp 174) 0), none, false, []⟩, ⟨(some 179), (.ext (.tmp 174) 1), none, false, []⟩, ⟨(some 26), (.mv (.tmp 178)), none, false, []⟩, ⟨(some 27), (.mv (.tmp 179)), none, false, []⟩]) (.seq (.reg [⟨(some 181), (.mv (.tmp 26)), none, false, []⟩, ⟨(some 182), (.mv (.tmp 5)), none, false, []⟩, ⟨(some 183), (.call 34 [(.tmp 181), (.tmp 182)]), none, false, []⟩, ⟨(some 180), (.mv (.tmp 183)), none, false, []⟩, ⟨(some 184), (.ext (.tmp 180) 0), none, false, []⟩, ⟨(some 185), (.ext (.tmp 180) 1), none, false, []⟩, ⟨(some 28), (.mv (.tmp 184)), none, false, []⟩, ⟨(some 29), (.mv (.tmp 185)), none, false, []⟩]) (.seq (.reg [⟨(some 186), (.mv (.tmp 25)), none, false, []⟩, ⟨(some 187), (.mv (.tmp 186)), none, false, []⟩, ⟨(some 188), (.mv (.tmp 27)), (some (187, true)), false, []⟩, ⟨(some 189), (.pick (.tmp 187) (.tmp 188) (.const (.bool false))), none, false, []⟩, ⟨(some 190), (.mv (.tmp 189)), none, false, []⟩, ⟨(some 191), (.mv (.tmp 29)), (some (190, true)), false, []⟩, ⟨(some 192), (.pick (.tmp 190) (.tmp 191) (.const (.bool false))), none, false, []⟩, ⟨(some 193), (.mv (.tmp 192)), none, false, []⟩, ⟨(some 194), (.mv (.tmp 24)), (some (193, true)), false, []⟩, ⟨(some 195), (.mv (.tmp 28)), (some (193, true)), false, []⟩, ⟨(some 196), (.bin .eql (.tmp 194) (.tmp 195)), (some (193, true)), false, []⟩, ⟨(some 197), (.pick (.tmp 193) (.tmp 196) (.const (.bool false))), none, false, []⟩, ⟨(some 4), (.mv (.tmp 197)), none, false, []⟩]) .ret)))))))))))))))))))))
def laws_FnFractions : PFunc := ⟨198, [(.tmp 4)], laws_FnFractions_c⟩
theorem laws_FnFractions_t : tab 7 = some laws_FnFractions := by kernel_rfl
end Go.PM
/- Limits: the statement's small functions and rounds, walked. -/
namespace Go.PM
theorem LV.len {lo hi : Nat} {vals : List Int} {H : VHeap} {v : VV} (h : LV lo hi vals H v) : vlen v H = some (VI vals.length) := by
  rcases h with ⟨rfl, rfl⟩ | ⟨b, g, c, h1, h2, rfl, h4, h5⟩
  · rfl
  · exact vlen_ref h5
theorem LV.get {lo hi : Nat} {vals : List Int} {H : VHeap} {v : VV} (h : LV lo hi vals H v) {i : Nat} {x : Int} (hx : vals[i]? = some x) : ∃ p, viaddr 1 v (VI i) H = some p ∧ vload false 1 p H = some (VI x) := by
  rcases h with ⟨rfl, rfl⟩ | ⟨b, g, c, h1, h2, rfl, h4, h5⟩
  · simp at hx
  · refine ⟨_, viaddr_row h5 (List.getElem?_eq_some_iff.1 hx).1, ?_⟩
    rw [Nat.zero_add, vload_row h5 hx]
    rfl
end Go.PM
/- The statement on limits, walked. -/
namespace Go.PM
theorem laws_b10Long_v (a b : List Nat) : TC 19 [bytV a, bytV b] (.sc (.bool (decide (1048576 < (a.length : Int) ∨ 1048576 < (b.length : Int))))) := by
  refine TC.walk ⟨true, false⟩ laws_b10Long_t rfl (Nat.le_of_ble_eq_true rfl) (by simp only [pureL, byt_pure]; rfl) rfl ?_
  by_cases h1 : (1048576 : Int) < (a.length : Int)
  · simp only [laws_b10Long, laws_b10Long_c, h1, true_or, VX, Nat.reduceEqDiff, Nat.reduceAdd]
    exact fz_res rfl
  · by_cases h2 : (1048576 : Int) < (b.length : Int)
    · simp only [laws_b10Long, laws_b10Long_c, h1, h2, or_true, VX, Nat.reduceEqDiff, Nat.reduceAdd]
      exact fz_res rfl
    · simp only [laws_b10Long, laws_b10Long_c, h1, h2, or_self, VX, Nat.reduceEqDiff, Nat.reduceAdd]
      exact fz_res rfl
end Go.PM
/- The statement on fractions, walked. -/
namespace Go.PM
open Go.Lib
theorem fits_mk {n : Int} {d : Nat} (h1 : n.natAbs < 10 ^ 200) (h2 : d < 10 ^ 200) : fitsQ (mkRat n d) = true := by
  have key : ∀ m : Nat, m < 10 ^ 200 → (decDigits m).length ≤ 200 := fun m hm => dec_len_le m 199 hm
  unfold fitsQ
  rw [decide_eq_true (key _ ?_), decide_eq_true (key _ ?_)]
  · rfl
  · rw [Rat.den_mkRat]
    split
    · exact Nat.one_lt_pow (by decide) (by decide)
    · exact Nat.lt_of_le_of_lt (Nat.div_le_self _ _) h2
  · rw [Rat.num_mkRat]
    split
    · exact Nat.pow_pos (by decide)
    · exact Nat.lt_of_le_of_lt (Int.natAbs_ediv_le_natAbs _ _) h1
theorem magQ_mk {n : Int} {d m : Nat} (h1 : n.natAbs ≤ m) (h2 : d ≤ m) (hm : 1 ≤ m) : (mkRat n d).num.natAbs ≤ m ∧ (mkRat n d).den ≤ m := by
  constructor
  · rw [Rat.num_mkRat]
    split
    · rw [Int.natAbs_zero]; omega
    · exact Nat.le_trans (Int.natAbs_ediv_le_natAbs _ _) h1
  · rw [Rat.den_mkRat]
    split
    · exact hm
    · exact Nat.le_trans (Nat.div_le_self _ _) h2
theorem magQ_mul {a b : Rat} {k l : Nat} (ha : a.num.natAbs ≤ 10 ^ k ∧ a.den ≤ 10 ^ k) (hb : b.num.natAbs ≤ 10 ^ l ∧ b.den ≤ 10 ^ l) : (a * b).num.natAbs ≤ 10 ^ (k + l) ∧ (a * b).den ≤ 10 ^ (k + l) := by
  rw [Rat.mul_def', Nat.pow_add]
  refine magQ_mk ?_ (Nat.mul_le_mul ha.2 hb.2) (Nat.mul_pos (Nat.pow_pos (by decide)) (Nat.pow_pos (by decide)))
  rw [Int.natAbs_mul]
  exact Nat.mul_le_mul ha.1 hb.1
theorem magQ_add {a b : Rat} {k l : Nat} (ha : a.num.natAbs ≤ 10 ^ k ∧ a.den ≤ 10 ^ k) (hb : b.num.natAbs ≤ 10 ^ l ∧ b.den ≤ 10 ^ l) : (a + b).num.natAbs ≤ 10 ^ (k + l + 1) ∧ (a + b).den ≤ 10 ^ (k + l + 1) := by
  have hp : 0 < 10 ^ (k + l) := Nat.pow_pos (by decide)
  have e : 10 ^ (k + l + 1) = 10 ^ (k + l) * 10 := Nat.pow_succ ..
  rw [Rat.add_def', e]
  have h1 : a.num.natAbs * b.den ≤ 10 ^ (k + l) := by rw [Nat.pow_add]; exact Nat.mul_le_mul ha.1 hb.2
  have h2 : b.num.natAbs * a.den ≤ 10 ^ (k + l) := by rw [Nat.pow_add, Nat.mul_comm (10 ^ k)]; exact Nat.mul_le_mul hb.1 ha.2
  have h3 : a.den * b.den ≤ 10 ^ (k + l) := by rw [Nat.pow_add]; exact Nat.mul_le_mul ha.2 hb.2
  refine magQ_mk ?_ (by omega) (by omega)
  refine Nat.le_trans (Int.natAbs_add_le _ _) ?_
  rw [Int.natAbs_mul, Int.natAbs_mul, Int.natAbs_natCast, Int.natAbs_natCast]
  omega
theorem magQ_neg {a : Rat} {k : Nat} (ha : a.num.natAbs ≤ 10 ^ k ∧ a.den ≤ 10 ^ k) : (-a).num.natAbs ≤ 10 ^ k ∧ (-a).den ≤ 10 ^ k := by
  rw [Rat.neg_num, Rat.neg_den, Int.natAbs_neg]
  exact ha
theorem fits_mag {q : Rat} {k : Nat} (hq : q.num.natAbs ≤ 10 ^ k ∧ q.den ≤ 10 ^ k) (hk : k ≤ 199) : fitsQ q = true := by
  have e : (10 : Nat) ^ k < 10 ^ 200 := Nat.pow_lt_pow_right (by decide) (by omega)
  have := fits_mk (n := q.num) (d := q.den) (Nat.lt_of_le_of_lt hq.1 e) (Nat.lt_of_le_of_lt hq.2 e)
  rwa [Rat.mkRat_self] at this
theorem show_len {q : Rat} (h : fitsQ q = true) : (showQ q).length ≤ 1000 := by
  unfold fitsQ at h
  simp only [Bool.and_eq_true, decide_eq_true_eq] at h
  unfold showQ
  rw [List.length_append, List.length_append]
  split <;> split <;> simp <;> omega
theorem show_zero : showQ 0 = [48] := by
  unfold showQ
  rw [if_neg (by decide), if_pos (by decide), show (0 : Rat).num.natAbs = 0 from rfl, dec_small (by decide)]
  rfl
theorem show_inj {x y : Rat} (hx : fitsQ x = true) (hy : fitsQ y = true) (h : showQ x = showQ y) : x = y := by
  have h1 := parse_show hx
  rw [h, parse_show hy] at h1
  exact (Option.some.inj h1).symm
theorem show_head {q : Rat} : 0 < (showQ q).length ∧ ((((showQ q).getD 0 0).toNat : Int) = 45 ↔ q.num < 0) := by
  obtain ⟨d1, _, _⟩ := dec_all q.num.natAbs q.num.natAbs (Nat.le_refl _)
  have hne := dec_ne q.num.natAbs
  unfold showQ
  by_cases hn : q.num < 0
  · rw [if_pos hn]
    exact ⟨by simp, fun _ => hn, fun _ => rfl⟩
  · rw [if_neg hn, List.nil_append]
    cases hd : decDigits q.num.natAbs with
    | nil => exact absurd hd hne
    | cons c l =>
      rw [hd, List.all_cons, Bool.and_eq_true] at d1
      have hc := d1.1
      simp only [isDig, Bool.and_eq_true, decide_eq_true_eq] at hc
      refine ⟨by simp, fun h => ?_, fun h => absurd h hn⟩
      have h' : ((c.toNat : Nat) : Int) = 45 := h
      omega
theorem told_fits {q : Rat} (h : fitsQ q = true) : toldQ q = .tup [strV (showQ q), VB true] := if_pos h
theorem str_neq_same (l : List UInt8) : pbin .neq (.string ⟨l.toArray⟩) (.string ⟨l.toArray⟩) = some (.bool false) := by rw [str_neq]; simp
theorem lt_tri (x y : Rat) : x < y ∨ x = y ∨ y < x := by
  rcases @Rat.le_total x y with h | h
  · by_cases he : x = y
    · exact .inr (.inl he)
    · exact .inl (by grind)
  · by_cases he : x = y
    · exact .inr (.inl he)
    · exact .inr (.inr (by grind))
theorem num_sub {x y : Rat} : (x - y).num < 0 ↔ x < y := by
  rw [← Int.not_le, Rat.num_nonneg]
  constructor <;> intro h <;> grind
def tailC : Nat → PCode → PCode
  | 0, c => c
  | n + 1, .seq _ b => tailC n b
  | _ + 1, c => c
theorem VW_cut {fl : Fl} {lo : Nat} {c : PCode} {Q : VQ} {ρ : VEnv} {H : VHeap} (P : VEnv → Prop) (h : P ρ) (k : ∀ ρ', P ρ' → VW fl lo c Q ρ' H) : VW fl lo c Q ρ H := k ρ h
def frT1 : PCode := tailC 11 laws_FnFractions_c
def frT2 : PCode := tailC 12 laws_FnFractions_c
def frT3 : PCode := tailC 15 laws_FnFractions_c
def frT4 : PCode := tailC 17 laws_FnFractions_c
set_option maxRecDepth 100000 in
set_option maxHeartbeats 4000000 in
theorem laws_FnFractions_v (code more : List Nat) (hx : ∀ x ∈ code, x < 256) (hy : ∀ x ∈ more, x < 256) : TC 7 [bytV code, bytV more] (.sc (.bool true)) := by
  refine TC.walk ⟨true, false⟩ laws_FnFractions_t rfl (Nat.le_of_ble_eq_true rfl) (by simp only [pureL, byt_pure]; rfl) rfl ?_
  have eLong := laws_b10Long_v code more
  by_cases hlong : 1048576 < (code.length : Int) ∨ 1048576 < (more.length : Int)
  · simp only [laws_FnFractions, laws_FnFractions_c, eLong, hlong, VX, Nat.reduceEqDiff, Nat.reduceAdd]
    exact fz_res rfl
  have hcode : bytOk code := ⟨hx, by omega⟩
  have hmore : bytOk more := ⟨hy, by omega⟩
  change VW ⟨true, false⟩ 0 (.seq _ (.seq _ (.seq _ (.seq _ (.seq _ (.seq _ (.seq _ (.seq _ (.seq _ (.seq _ (.seq _ frT1))))))))))) _ _ _
  simp only [eLong, hlong, laws_FnFractions, VX, Nat.reduceEqDiff, Nat.reduceAdd]
  refine vcall_raw rfl ((spec_B10Fraction_v hcode (Nat.zero_le _)).mono ?_)
  rintro r H1 ⟨x, xb, sx, rfl, rfl⟩
  simp only [VX, Nat.reduceEqDiff, Nat.reduceAdd]
  refine vcall_raw rfl ((spec_B10Fraction_v hmore (Nat.zero_le _)).mono ?_)
  rintro r H2 ⟨y, yb, sy, rfl, rfl⟩
  have sx : x.num.natAbs ≤ 10 ^ 56 ∧ x.den ≤ 10 ^ 56 := sx
  have sy : y.num.natAbs ≤ 10 ^ 56 ∧ y.den ≤ 10 ^ 56 := sy
  have fx := fits_mag sx (by decide)
  have fy := fits_mag sy (by decide)
  have fs := fits_mag (magQ_add sx sy) (by decide)
  have fp := fits_mag (magQ_mul sx sy) (by decide)
  have fd : fitsQ (x - y) = true := by
    rw [Rat.sub_eq_add_neg]
    exact fits_mag (magQ_add sx (magQ_neg sy)) (by decide)
  have fq := fits_mag (magQ_mul sx sx) (by decide)
  have fc := fits_mag (magQ_mul (magQ_mul sx sx) sx) (by decide)
  have px := parse_show fx
  have py := parse_show fy
  have ps := parse_show fs
  have pp := parse_show fp
  have pq := parse_show fq
  have lx := show_len fx
  have ly := show_len fy
  have ls := show_len fs
  have lp := show_len fp
  have lq := show_len fq
  have c1 := impl_AddFractions_v (showQ x) (showQ y) (by omega) (by omega)
  rw [opQ_some px py, told_fits fs] at c1
  have c2 := impl_AddFractions_v (showQ y) (showQ x) (by omega) (by omega)
  rw [opQ_some py px, Rat.add_comm y x, told_fits fs] at c2
  have c3 := impl_LessFraction_v (showQ (x + y)) (showQ y) (by omega) (by omega)
  rw [opQ_some ps py, show x + y - y = x by grind, told_fits fx] at c3
  have c4 := impl_TimesFractions_v (showQ x) (showQ y) (by omega) (by omega)
  rw [opQ_some px py, told_fits fp] at c4
  have c5 := impl_TimesFractions_v (showQ y) (showQ x) (by omega) (by omega)
  rw [opQ_some py px, Rat.mul_comm y x, told_fits fp] at c5
  have c6 := impl_LessFraction_v (showQ x) (showQ y) (by omega) (by omega)
  rw [opQ_some px py, told_fits fd] at c6
  have c7 := impl_CompareFractions_v (showQ x) (showQ y) (by omega) (by omega)
  rw [cmpV_some px py] at c7
  have i1 := impl_IsFraction_v (showQ x) (by omega)
  rw [px] at i1
  have i2 := impl_IsFraction_v (showQ (x + y)) (by omega)
  rw [ps] at i2
  have i3 := impl_IsFraction_v (showQ (x * y)) (by omega)
  rw [pp] at i3
  have c8 := impl_OverFraction_v (showQ (x * y)) (showQ y) (by omega) (by omega)
  have c9 := impl_PowerOf_v (showQ x) 3 (by omega)
  have e3 : x ^ 3 = x * x * x := by rw [Rat.pow_succ, Rat.pow_succ, Rat.pow_succ, Rat.pow_zero, Rat.one_mul]
  have hpw : powQ (showQ x) 3 = .tup [strV (showQ (x * x * x)), VB true] := by
    unfold powQ
    rw [px]
    simp only []
    rw [if_pos (by decide), show Int.toNat 3 = 3 from rfl, e3, told_fits fc]
  rw [hpw] at c9
  have c10 := impl_TimesFractions_v (showQ x) (showQ x) (by omega) (by omega)
  rw [opQ_some px px, told_fits fq] at c10
  have c11 := impl_TimesFractions_v (showQ (x * x)) (showQ x) (by omega) (by omega)
  rw [opQ_some pq px, told_fits fc] at c11
  have e0 : pbin .eql (.string ⟨(showQ (x - y)).toArray⟩) (.string ⟨#[48]⟩) = some (.bool (decide (showQ (x - y) = [48]))) := str_eql (showQ (x - y)) [48]
  have e1 := sidx_str0 (showQ (x - y)) show_head.1
  have hh := show_head (q := x - y)
  have e2 : pbin .neq (.string ⟨(showQ y).toArray⟩) (.string ⟨#[48]⟩) = some (.bool (!decide (showQ y = [48]))) := str_neq (showQ y) [48]
  have eab : pbin .eql (.string ⟨(showQ x).toArray⟩) (.string ⟨(showQ y).toArray⟩) = some (.bool (decide (showQ x = showQ y))) := str_eql _ _
  have d0 : showQ (x - y) = [48] ↔ x = y := by
    constructor
    · intro h
      rw [← show_zero] at h
      have := show_inj fd (by rw [show (0 : Rat) = mkRat 0 1 from rfl]; exact fits_mk (by simp) (by simp)) h
      grind
    · intro h
      rw [h, show y - y = 0 by grind, show_zero]
  have y0 : showQ y = [48] ↔ y = 0 := by
    constructor
    · intro h
      rw [← show_zero] at h
      exact show_inj fy (by rw [show (0 : Rat) = mkRat 0 1 from rfl]; exact fits_mk (by simp) (by simp)) h
    · intro h
      rw [h, show_zero]
  have ab : showQ x = showQ y ↔ x = y := ⟨show_inj fx fy, fun h => by rw [h]⟩
  rw [num_sub] at hh
  have hq : y ≠ 0 → divQ (showQ (x * y)) (showQ y) = .tup [strV (showQ x), VB true] := by
    intro h
    unfold divQ
    rw [py, if_neg (by simpa using h), opQ_some pp py, show x * y / y = x by rw [Rat.mul_div_cancel h], told_fits fx]
  have hq0 : y = 0 → divQ (showQ (x * y)) (showQ y) = .tup [strV [], VB false] := by
    intro h
    unfold divQ
    rw [py, if_pos (by rw [h])]
  clear px py ps pp pq lx ly ls lp lq fs fp fd fq fc hpw e3
  have key : ∃ ord : Int, compQ x y = ord := ⟨_, rfl⟩
  obtain ⟨ord, hord⟩ := key
  rw [hord] at c7
  simp only [c1, c2, c3, c4, c5, c6, c7, VX, Nat.reduceEqDiff, Nat.reduceAdd]
  refine VW_cut (fun ρ => ρ 5 = strV (showQ x) ∧ ρ 6 = strV (showQ y) ∧ ρ 7 = strV (showQ (x + y)) ∧ ρ 8 = VB true ∧ ρ 9 = strV (showQ (x + y)) ∧ ρ 10 = VB true ∧ ρ 11 = strV (showQ x) ∧ ρ 12 = VB true ∧ ρ 13 = strV (showQ (x * y)) ∧ ρ 14 = VB true ∧ ρ 15 = strV (showQ (x * y)) ∧ ρ 16 = VB true ∧ ρ 17 = strV (showQ (x - y)) ∧ ρ 18 = VB true ∧ ρ 19 = VI ord ∧ ρ 20 = VB true) ?_ ?_
  · simp only [VX, Nat.reduceEqDiff, Nat.reduceAdd]
  rintro ρ ⟨g5, g6, g7, g8, g9, g10, g11, g12, g13, g14, g15, g16, g17, g18, g19, g20⟩
  change VW _ _ (.seq _ frT2) _ _ _
  simp only [g5, g6, g7, g8, g9, g10, g11, g12, g13, g14, g15, g16, g18, g20, i1, i2, i3, str_neq_same, Option.isSome_some, VX, Nat.reduceEqDiff, Nat.reduceAdd]
  refine VW_cut (fun ρ => ρ 5 = strV (showQ x) ∧ ρ 6 = strV (showQ y) ∧ ρ 13 = strV (showQ (x * y)) ∧ ρ 17 = strV (showQ (x - y)) ∧ ρ 19 = VI ord) ?_ ?_
  · simp only [g5, g6, g13, g17, g19, VX, Nat.reduceEqDiff, Nat.reduceAdd]
  clear g5 g6 g7 g8 g9 g10 g11 g12 g13 g14 g15 g16 g17 g18 g19 g20 ρ
  rintro ρ ⟨g5, g6, g13, g17, g19⟩
  have fin : ∀ ρ : VEnv, ρ 5 = strV (showQ x) → ρ 6 = strV (showQ y) → ρ 13 = strV (showQ (x * y)) → VW ⟨true, false⟩ 0 frT3 (vretQ [PRes.tmp 4] fun v H => fz depth H v = some (VB true)) ρ ([] ++ [xb] ++ [yb]) := by
    clear g5 g6 g13 g17 g19 ρ
    intro ρ g5 g6 g13
    change VW _ _ (.seq _ (.seq _ frT4)) _ _ _
    have tail : ∀ ρ : VEnv, ρ 5 = strV (showQ x) → VW ⟨true, false⟩ 0 frT4 (vretQ [PRes.tmp 4] fun v H => fz depth H v = some (VB true)) ρ ([] ++ [xb] ++ [yb]) := by
      clear g5 g6 g13 ρ
      intro ρ g5
      change VW _ _ (.seq _ (.seq _ (.seq _ (.seq _ .ret)))) _ _ _
      simp only [g5, c9, c10, c11, str_eql, decide_true, VX, Nat.reduceEqDiff, Nat.reduceAdd]
      exact fz_res rfl
    by_cases hy0 : y = 0
    · rw [hq0 hy0] at c8
      rw [decide_eq_true (y0.2 hy0)] at e2
      simp only [g5, g6, g13, c8, e2, eqb_self, Bool.not_true, VX, Nat.reduceEqDiff, Nat.reduceAdd]
      exact tail _ (by simp only [g5, VX, Nat.reduceEqDiff, Nat.reduceAdd])
    · rw [hq hy0] at c8
      rw [decide_eq_false (fun h => hy0 (y0.1 h))] at e2
      simp only [g5, g6, g13, c8, e2, eqb_self, str_neq_same, Bool.not_false, VX, Nat.reduceEqDiff, Nat.reduceAdd]
      exact tail _ (by simp only [g5, VX, Nat.reduceEqDiff, Nat.reduceAdd])
  change VW _ _ (.seq _ (.seq _ (.seq _ frT3))) _ _ _
  rcases lt_tri x y with hlt | heq | hgt
  · have hne : x ≠ y := fun h => Rat.lt_irrefl (h ▸ hlt)
    have q2 := hh.2.2 hlt
    rw [decide_eq_false (fun h => hne (d0.1 h))] at e0
    rw [decide_eq_false (fun h => hne (ab.1 h))] at eab
    rw [show compQ x y = -1 from if_pos hlt] at hord
    subst hord
    simp only [g5, g6, g17, g19, e0, e1, q2, eab, eqb_self, decide_true, decide_false, Int.reduceNeg, Int.reduceEq, VX, Nat.reduceEqDiff, Nat.reduceAdd]
    exact fin _ (by simp only [g5, VX, Nat.reduceEqDiff, Nat.reduceAdd]) (by simp only [g6, VX, Nat.reduceEqDiff, Nat.reduceAdd]) (by simp only [g13, VX, Nat.reduceEqDiff, Nat.reduceAdd])
  · rw [decide_eq_true (d0.2 heq)] at e0
    rw [decide_eq_true (ab.2 heq)] at eab
    rw [show compQ x y = 0 from by rw [heq]; unfold compQ; rw [if_neg Rat.lt_irrefl, if_neg Rat.lt_irrefl]] at hord
    subst hord
    simp only [g5, g6, g17, g19, e0, eab, eqb_self, decide_true, decide_false, Int.reduceNeg, Int.reduceEq, VX, Nat.reduceEqDiff, Nat.reduceAdd]
    exact fin _ (by simp only [g5, VX, Nat.reduceEqDiff, Nat.reduceAdd]) (by simp only [g6, VX, Nat.reduceEqDiff, Nat.reduceAdd]) (by simp only [g13, VX, Nat.reduceEqDiff, Nat.reduceAdd])
  · have hnl : ¬ x < y := fun h => by grind
    have hne : x ≠ y := fun h => Rat.lt_irrefl (h ▸ hgt)
    have q2 : ¬ (((showQ (x - y)).getD 0 0).toNat : Int) = 45 := fun h => hnl (hh.2.1 h)
    rw [decide_eq_false (fun h => hne (d0.1 h))] at e0
    rw [decide_eq_false (fun h => hne (ab.1 h))] at eab
    rw [show compQ x y = 1 from by unfold compQ; rw [if_neg hnl, if_pos hgt]] at hord
    subst hord
    simp only [g5, g6, g17, g19, e0, e1, q2, eab, eqb_self, decide_true, decide_false, Int.reduceNeg, Int.reduceEq, VX, Nat.reduceEqDiff, Nat.reduceAdd]
    exact fin _ (by simp only [g5, VX, Nat.reduceEqDiff, Nat.reduceAdd]) (by simp only [g6, VX, Nat.reduceEqDiff, Nat.reduceAdd]) (by simp only [g13, VX, Nat.reduceEqDiff, Nat.reduceAdd])
end Go.PM
/- The library's tables, out of what a row lists. -/
namespace Go.PM
open Go.Proofs
theorem laidVars_find {P : Program} {w : World} {name : String} {d : DataW Unit} : ∀ {l : List (String × DataW Unit)} {ps : List MemPlace}, DataW.LaidVars P w l ps → (name, d) ∈ l →
    ∃ g t cs fuel p, P.globalNamed name = some g ∧ (P.globals[g]?).map (·.type) = some t ∧ w.var? P name = some cs ∧ DataW.trod (fun _ => ()) P w 0 (fun _ => true) false fuel t cs.toList = some (d, p)
  | [], _, _, hm => by cases hm
  | (n, e) :: r, ps, h, hm => by
    obtain ⟨g, t, cs, fuel, p, q, h1, h2, h3, h4, h5, _⟩ := h
    rcases List.mem_cons.1 hm with he | hm
    · cases he
      exact ⟨g, t, cs, fuel, p, h1, h2, h3, h4⟩
    · exact laidVars_find h5 hm
theorem globIn_of_laid {W : World} {l : List (String × DataW Unit)} (hl : laidMetH Tryz.prog l W) (hp : (l.all fun x => x.2.handleName?.isNone) = true) (hm : ("internal/strconv.uint64pow10", Lib.tabData .u64 Lib.pow10Tab) ∈ l)
    {t e : TypeId} {n : Nat} (hty : (Tryz.prog.globals[3]?).map (·.type) = some t) (ht : Tryz.prog.underlying t = some (.array n e)) (he : Tryz.prog.underlying e = some (.int .u64)) (hce : Tryz.prog.cellsOf e = 1) (hct : Tryz.prog.cellsOf t = n) : GlobIn W := by
  rw [MakeChecks.laidMetH_plain _ _ _ hp] at hl
  obtain ⟨ps, h1, _⟩ := hl
  obtain ⟨g', t', cs, fuel, p, hg', ht', hvar, hd⟩ := laidVars_find h1 hm
  have hg : Tryz.prog.globalNamed "internal/strconv.uint64pow10" = some 3 := by kernel_rfl
  obtain rfl := Option.some.inj (hg.symm.trans hg')
  obtain rfl := Option.some.inj (hty.symm.trans ht')
  have hcs := Lib.cells_of_tab ht he hce hct hd
  intro x hx
  have hx' : x = (3, (Lib.pow10Tab.map fun z => Value.int .u64 z).toArray) := by simpa [gtab] using hx
  subst hx'
  unfold World.var? at hvar
  rw [hg, Option.bind_some] at hvar
  split at hvar
  · rename_i cs' e' fz' hh
    cases hvar
    refine ⟨e', fz', ?_⟩
    rw [← hcs]
    simpa using hh
  · cases hvar
end Go.PM
