/- What each operation comes to, in words that a rewriting takes. -/
import Derived.Test.YtkoiolkkceknhaaPmWp
import Derived.Laws.BitsLemmas
namespace Go.PM

theorem ex_some {α β : Type} {a : α} {b : β} {P : α → β → Prop} : (∃ v H', some (a, b) = some (v, H') ∧ P v H') = P a b :=
  propext ⟨fun ⟨_, _, h, hp⟩ => (by cases h; exact hp), fun h => ⟨a, b, rfl, h⟩⟩
theorem ex_bool {t : Bool} {P : Bool → Prop} : (∃ x, Value.bool t = Value.bool x ∧ P x) = P t :=
  propext ⟨fun ⟨_, h, hp⟩ => (by cases h; exact hp), fun h => ⟨t, rfl, h⟩⟩
theorem ex_one {α : Type} {a : α} {P : α → Prop} : (∃ v, some a = some v ∧ P v) = P a :=
  propext ⟨fun ⟨_, h, hp⟩ => (by cases h; exact hp), fun h => ⟨a, rfl, h⟩⟩

/-! ### values -/
theorem wrap64 {x : Int} (h1 : -9223372036854775808 ≤ x) (h2 : x ≤ 9223372036854775807) : IntKind.i64.wrap x = x := by
  rw [IntKind.wrap_i64]
  omega

section
variable {k : IntKind} {a b : Int}
theorem pbin_add : pbin .add (.int k a) (.int k b) = some (.int k (k.wrap (a + b))) := by simp [pbin]
theorem pbin_sub : pbin .sub (.int k a) (.int k b) = some (.int k (k.wrap (a - b))) := by simp [pbin]
theorem pbin_mul : pbin .mul (.int k a) (.int k b) = some (.int k (k.wrap (a * b))) := by simp [pbin]
theorem pbin_quo (h : b ≠ 0) : pbin .quo (.int k a) (.int k b) = some (.int k (k.wrap (a.tdiv b))) := by simp [pbin, h]
theorem pbin_rem (h : b ≠ 0) : pbin .rem (.int k a) (.int k b) = some (.int k (a.tmod b)) := by simp [pbin, h]
theorem pbin_lss : pbin .lss (.int k a) (.int k b) = some (.bool (decide (a < b))) := by simp [pbin]
theorem pbin_leq : pbin .leq (.int k a) (.int k b) = some (.bool (decide (a ≤ b))) := by simp [pbin]
theorem pbin_gtr : pbin .gtr (.int k a) (.int k b) = some (.bool (decide (b < a))) := by simp [pbin]
theorem pbin_geq : pbin .geq (.int k a) (.int k b) = some (.bool (decide (b ≤ a))) := by simp [pbin]
theorem pbin_eql : pbin .eql (.int k a) (.int k b) = some (.bool (decide (a = b))) := by
  simp only [pbin, if_true]
  rfl
theorem pbin_neq : pbin .neq (.int k a) (.int k b) = some (.bool (!decide (a = b))) := by
  simp only [pbin, if_true]
  rfl
theorem pun_neg : pun .neg (.int k a) = some (.int k (k.wrap (0 - a))) := rfl
theorem pun_not {t : Bool} : pun .not (.bool t) = some (.bool (!t)) := rfl
end

def lenV : Value → Option Value
  | .slice _ n _ => some (.int .i64 n)
  | _ => none
def eqbV (neg : Bool) : Value → Value → Option Value
  | .bool a, .bool b => some (.bool ((a == b) != neg))
  | _, _ => none
def isnilV (neg : Bool) : Value → Option Value
  | .slice none _ _ => some (.bool (true != neg))
  | .slice (some _) _ _ => some (.bool (false != neg))
  | _ => none
def eqaggV (neg : Bool) (ks : List CK) : Value → Value → Option Value
  | .agg a, .agg b => (eqCells ks a.toList b.toList).map fun t => .bool (t != neg)
  | _, _ => none
def cvtV (k : IntKind) : Value → Option Value
  | .int _ n => some (.int k (k.wrap n))
  | _ => none
def extV (i : Nat) : Value → Option Value
  | .tuple vs => vs[i]?
  | _ => none
def fldV (agg : Bool) (off size : Nat) : Value → Option Value
  | .agg cs => if agg then (if off + size ≤ cs.size then some (.agg (cs.extract off (off + size))) else none) else cs[off]?
  | _ => none
def chkV : Value → Option Value
  | .pointer (some a) => some (.pointer (some a))
  | _ => none
def faddrV (off : Nat) : Value → Option Value
  | .pointer (some ⟨b, o, none⟩) => some (.pointer (some ⟨b, o + off, none⟩))
  | _ => none
def iaddrV (size : Nat) : Value → Value → Option Value
  | .slice (some ⟨b, o, none⟩) n _, .int _ i => if 0 ≤ i ∧ i < n then some (.pointer (some ⟨b, o + i.toNat * size, none⟩)) else none
  | _, _ => none
def minV : Value → Value → Option Value
  | .int k a, .int _ b => some (.int k (if b < a then b else a))
  | _, _ => none
def maxV : Value → Value → Option Value
  | .int k a, .int _ b => some (.int k (if b > a then b else a))
  | _, _ => none

section
variable {lo : Nat} {ρ : Env} {H : Heap} {q : Bool}
theorem oval_lift {op : POp} {r : Option (Value × Heap)} (h : pop lo op ρ H = r.map fun (v, H') => .val v H') : oval lo q op ρ H = r := by
  unfold oval
  rw [h]
  cases r <;> rfl
theorem oval_len {x : Operand} : oval lo q (.len x) ρ H = (lenV (ev ρ x)).map (·, H) := oval_pure rfl
theorem oval_eqb {neg : Bool} {x y : Operand} : oval lo q (.eqb neg x y) ρ H = (eqbV neg (ev ρ x) (ev ρ y)).map (·, H) := oval_pure rfl
theorem oval_isnil {neg : Bool} {x : Operand} : oval lo q (.isnil neg x) ρ H = (isnilV neg (ev ρ x)).map (·, H) := oval_pure rfl
theorem oval_eqagg {neg : Bool} {ks : List CK} {x y : Operand} : oval lo q (.eqagg neg ks x y) ρ H = (eqaggV neg ks (ev ρ x) (ev ρ y)).map (·, H) := oval_pure rfl
theorem oval_cvt {k : IntKind} {x : Operand} : oval lo q (.cvt k x) ρ H = (cvtV k (ev ρ x)).map (·, H) := oval_pure rfl
theorem oval_ext {i : Nat} {x : Operand} : oval lo q (.ext x i) ρ H = (extV i (ev ρ x)).map (·, H) := oval_pure rfl
theorem oval_fld {agg : Bool} {off size : Nat} {x : Operand} : oval lo q (.fld agg off size x) ρ H = (fldV agg off size (ev ρ x)).map (·, H) := oval_pure rfl
theorem oval_build {z : List Value} {places : List (Nat × Nat)} {parts : List (Nat × Operand)} : oval lo q (.build z places parts) ρ H = ((pfill places z (parts.map fun (i, x) => (i, ev ρ x))).map fun cs => Value.agg cs.toArray).map (·, H) := oval_pure rfl
theorem oval_chk {x : Operand} : oval lo q (.chk x) ρ H = (chkV (ev ρ x)).map (·, H) := oval_pure rfl
theorem oval_faddr {off : Nat} {x : Operand} : oval lo q (.faddr off x) ρ H = (faddrV off (ev ρ x)).map (·, H) := oval_pure rfl
theorem oval_iaddr {size : Nat} {x i : Operand} : oval lo q (.iaddr size x i) ρ H = (iaddrV size (ev ρ x) (ev ρ i)).map (·, H) := oval_pure rfl
theorem oval_mkfn {f : Nat} {caps : List Operand} : oval lo q (.mkfn f caps) ρ H = some (.func (.func f) #[] (caps.map (ev ρ)).toArray, H) := oval_pure rfl
theorem oval_min {x y : Operand} : oval lo q (.min x y) ρ H = (minV (ev ρ x) (ev ρ y)).map (·, H) := oval_pure rfl
theorem oval_max {x y : Operand} : oval lo q (.max x y) ρ H = (maxV (ev ρ x) (ev ρ y)).map (·, H) := oval_pure rfl
theorem oval_load {agg : Bool} {size : Nat} {p : Operand} : oval lo q (.load agg size p) ρ H = (pload agg size (ev ρ p) H).map (·, H) := by
  unfold oval
  simp only [pop]
  cases pload agg size (ev ρ p) H <;> rfl
theorem oval_sub {size : Nat} {x : Operand} {l h m : Option Operand} : oval lo q (.sub size x l h m) ρ H = psub size (ev ρ x) (l.map (ev ρ)) (h.map (ev ρ)) (m.map (ev ρ)) H := by
  unfold oval
  simp only [pop]
  cases psub size (ev ρ x) (l.map (ev ρ)) (h.map (ev ρ)) (m.map (ev ρ)) H <;> rfl
theorem oval_new {z : List Value} : oval lo q (.new z) ρ H = some (.pointer (some ⟨H.length, 0, none⟩), H ++ [.row z z.length false]) := rfl
theorem oval_box {x : Operand} : oval lo q (.box x) ρ H = if (pcells (ev ρ x)).all scal then some (.pointer (some ⟨H.length, 0, none⟩), H ++ [.row (pcells (ev ρ x)) (pcells (ev ρ x)).length false]) else none := by
  apply oval_lift
  simp only [pop]
  by_cases h : (pcells (ev ρ x)).all scal = true
  · rw [if_pos h, if_pos h]; rfl
  · rw [if_neg h, if_neg h]; rfl
def makeV (z : List Value) (bytes : Nat) (l c : Value) (H : Heap) : Option (Value × Heap) :=
  match l, c with
  | .int .i64 l, .int .i64 c => if 0 ≤ l ∧ l ≤ c ∧ c * bytes ≤ 281474976710656 ∧ c ≤ 9223372036854775807 then
      some (.slice (some ⟨H.length, 0, none⟩) l.toNat c.toNat, H ++ [.row (zcells c.toNat z) z.length false]) else none
  | _, _ => none
theorem oval_make {z : List Value} {bytes : Nat} {l c : Operand} : oval lo q (.make z bytes l c) ρ H = makeV z bytes (ev ρ l) (ev ρ c) H := by
  apply oval_lift
  simp only [pop]
  unfold makeV
  split
  · rename_i l c h1 h2
    simp only [h1, h2]
    split <;> rfl
  · rename_i h1
    split
    · rename_i h2 h3
      exact (h1 _ _ h2 h3).elim
    · rfl
def litV (z : List Value) (n : Nat) (parts : List (Nat × Value)) (H : Heap) : Option (Value × Heap) :=
  match pfill ((List.range n).map fun i => (i * z.length, z.length)) (zcells n z) parts with
  | some cs => if cs.all scal then some (.slice (some ⟨H.length, 0, none⟩) n n, H ++ [.row cs z.length false]) else none
  | none => none
theorem oval_lit {z : List Value} {n : Nat} {parts : List (Nat × Operand)} : oval lo q (.lit z n parts) ρ H = litV z n (parts.map fun (i, x) => (i, ev ρ x)) H := by
  apply oval_lift
  simp only [pop]
  unfold litV
  split
  · rename_i cs h1
    simp only [h1]
    split <;> rfl
  · rename_i h1
    simp only [h1]
    rfl
def storeV (lo size : Nat) (p v : Value) (H : Heap) : Option (Value × Heap) :=
  match p with
  | .pointer (some ⟨b, o, none⟩) => if (pcells v).length = size then (H.write lo b o (pcells v)).map fun H' => (undef, H') else none
  | _ => none
theorem oval_store {size : Nat} {p v : Operand} : oval lo q (.store size p v) ρ H = storeV lo size (ev ρ p) (ev ρ v) H := by
  apply oval_lift
  simp only [pop]
  unfold storeV
  split
  · rename_i b o h1
    simp only [h1]
    split
    · cases H.write lo b o (pcells (ev ρ v)) <;> rfl
    · rfl
  · rename_i h1
    split
    · rename_i h2
      exact (h1 _ _ h2).elim
    · rfl
def appV (lo size bytes : Nat) (x y : Value) (H : Heap) : Option (Value × Heap) :=
  match plenOf y with
  | some n => match psource H size n y with
    | some new => pappend lo size bytes x n new H
    | none => none
  | none => none
theorem oval_app {size bytes : Nat} {x y : Operand} : oval lo q (.app size bytes x y) ρ H = appV lo size bytes (ev ρ x) (ev ρ y) H := by
  apply oval_lift
  simp only [pop]
  unfold appV
  cases plenOf (ev ρ y) with
  | none => rfl
  | some n =>
    cases hs : psource H size n (ev ρ y) with
    | none => simp only [hs]; rfl
    | some new => simp only [hs]
def appzV (lo : Nat) (z : List Value) (bytes : Nat) (x n : Value) (H : Heap) : Option (Value × Heap) :=
  match n with
  | .int .i64 n => if 0 ≤ n ∧ n * bytes ≤ 140737488355328 then pappend lo z.length bytes x n.toNat (zcells n.toNat z) H else none
  | _ => none
theorem oval_appz {z : List Value} {bytes : Nat} {x n : Operand} : oval lo q (.appz z bytes x n) ρ H = appzV lo z bytes (ev ρ x) (ev ρ n) H := by
  apply oval_lift
  simp only [pop]
  unfold appzV
  split
  · rename_i n h1
    simp only [h1]
    split <;> rfl
  · rename_i h1
    split
    · rename_i h2
      exact (h1 _ h2).elim
    · rfl
def copyV (lo size : Nat) (x y : Value) (H : Heap) : Option (Value × Heap) :=
  match x, plenOf y with
  | .slice none _ _, some _ => some (.int .i64 0, H)
  | .slice (some ⟨b, o, none⟩) d _, some s => match psource H size (Nat.min s d) y with
    | some new => (H.write lo b o new).map fun H' => (.int .i64 (Nat.min s d), H')
    | none => none
  | _, _ => none
theorem oval_copy {size : Nat} {x y : Operand} : oval lo q (.copy size x y) ρ H = copyV lo size (ev ρ x) (ev ρ y) H := by
  apply oval_lift
  simp only [pop]
  unfold copyV
  split
  · rename_i h1 h2
    simp only [h1, h2]
    rfl
  · rename_i b o d _ s h1 h2
    simp only [h1, h2]
    cases hs : psource H size (Nat.min s d) (ev ρ y) with
    | none => rfl
    | some new =>
      simp only
      cases H.write lo b o new <;> rfl
  · rename_i h1 h2
    split
    · rename_i h3 h4
      exact (h1 _ _ _ h3 h4).elim
    · rename_i h3 h4
      exact (h2 _ _ _ _ _ h3 h4).elim
    · rfl
def clearV (lo : Nat) (z : List Value) (x : Value) (H : Heap) : Option (Value × Heap) :=
  match x with
  | .slice none _ _ => some (undef, H)
  | .slice (some ⟨b, o, none⟩) n _ => if n = 0 then some (undef, H) else (H.write lo b o (zcells n z)).map fun H' => (undef, H')
  | _ => none
theorem oval_clear {z : List Value} {x : Operand} : oval lo q (.clear z x) ρ H = clearV lo z (ev ρ x) H := by
  apply oval_lift
  simp only [pop]
  unfold clearV
  split
  · rename_i h1
    simp only [h1]
    rfl
  · rename_i b o n _ h1
    simp only [h1]
    split
    · rfl
    · cases H.write lo b o (zcells n z) <;> rfl
  · rename_i h1 h2
    split
    · rename_i h3
      exact (h1 _ _ h3).elim
    · rename_i h3
      exact (h2 _ _ _ _ h3).elim
    · rfl
noncomputable def callV (lo : Nat) (fv : Value) (args : List Value) (H : Heap) : Option (Value × Heap) :=
  match fv with
  | .func (.func f) first caps => pmCall f (first.toList ++ args ++ caps.toList) lo H
  | _ => none
theorem oval_callv {fv : Operand} {args : List Operand} : oval lo q (.callv fv args) ρ H = callV (if q then H.length else lo) (ev ρ fv) (args.map (ev ρ)) H := by
  unfold oval
  simp only [pop]
  unfold callV
  generalize ev ρ fv = v
  cases v with
  | func fn f c => cases fn <;> rfl
  | _ => rfl
end
end Go.PM
