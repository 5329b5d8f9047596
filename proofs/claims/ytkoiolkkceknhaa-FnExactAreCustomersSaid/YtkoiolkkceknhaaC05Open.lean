/- The statements' arguments on customers, opened. -/
import Derived.Test.YtkoiolkkceknhaaRows
import Derived.Test.YtkoiolkkceknhaaPmGlue
import Derived.Test.YtkoiolkkceknhaaP05
namespace Go.Proofs.Ytkoiolkkceknhaa
open Go.ChangeShapes Go.WideShapes Go.ChangeAt Go.RowKit Go.PM

theorem own : ownKnob Try.prog.godebug = none := by kernel_rfl
theorem laidOut : laidOutB Try.prog = true := by kernel_rfl

theorem w64_of {n : Int} (h : (Lit.int .i64 n).wf = true) : w64 n := by
  simp only [Lit.wf, Bool.and_eq_true, decide_eq_true_eq] at h
  exact h
def cw64 (c : Cust) : Prop := w64 c.t ∧ w64 c.w ∧ w64 c.k

theorem three {α : Type} {l : List α} (h : l.length = 3) : ∃ a b c, l = [a, b, c] := by
  rcases l with _ | ⟨a, _ | ⟨b, _ | ⟨c, _ | ⟨d, l⟩⟩⟩⟩
  · cases h
  · cases h
  · cases h
  · exact ⟨a, b, c, rfl⟩
  · simp at h
theorem open_cust {T : Type} {encT : TypeId × Value → T} {W : World} (fuel : Nat) (cs : List Value) (y : DataW T × List MemPlace) (h : DataW.trod encT Try.prog W 0 (fun _ => true) true fuel 67 cs = some y) : ∃ x : Cust, cs = cc x ∧ cw64 x := by
  obtain ⟨xs, n, _, _, hl, hlen, hf⟩ := DataW.trod_struct Try.underlying67 h
  have c1 : Try.prog.cellsOf 2 = 1 := by kernel_rfl
  have c3 : Try.prog.cellsOf 67 = 3 := by kernel_rfl
  rw [c3] at hl
  obtain ⟨a, b, c, rfl⟩ := three hl
  obtain ⟨p, q, r, rfl⟩ := three (l := xs) hlen
  have h0 : DataW.trod encT Try.prog W 0 (fun _ => true) true n 2 (([a, b, c].drop 0).take (Try.prog.cellsOf 2)) = some p := hf 0 _ rfl
  have h1 : DataW.trod encT Try.prog W 0 (fun _ => true) true n 2 (([a, b, c].drop 1).take (Try.prog.cellsOf 2)) = some q := hf 1 _ rfl
  have h2 : DataW.trod encT Try.prog W 0 (fun _ => true) true n 2 (([a, b, c].drop 2).take (Try.prog.cellsOf 2)) = some r := hf 2 _ rfl
  rw [c1] at h0 h1 h2
  obtain ⟨n0, e0, _, w0⟩ := DataW.trod_int Try.underlying2 h0
  obtain ⟨n1, e1, _, w1⟩ := DataW.trod_int Try.underlying2 h1
  obtain ⟨n2, e2, _, w2⟩ := DataW.trod_int Try.underlying2 h2
  have hw : cw64 ⟨n0, n1, n2⟩ := ⟨w64_of w0, w64_of w1, w64_of w2⟩
  refine ⟨⟨n0, n1, n2⟩, ?_, hw⟩
  have g0 : a = .int .i64 n0 := by simpa using e0
  have g1 : b = .int .i64 n1 := by simpa using e1
  have g2 : c = .int .i64 n2 := by simpa using e2
  rw [g0, g1, g2]
  rfl
theorem cust_self (m : PMap) (x : Cust) (_ : cw64 x) (i : Nat) (hi : i < 3) : RV m ((cc x).getD i undef) ((cc x).getD i undef) := by
  match i, hi with
  | 0, _ => exact .int _ _
  | 1, _ => exact .int _ _
  | 2, _ => exact .int _ _

theorem open_num {T : Type} {encT : TypeId × Value → T} {W : World} (fuel : Nat) (cs : List Value) (y : DataW T × List MemPlace) (h : DataW.trod encT Try.prog W 0 (fun _ => true) true fuel 2 cs = some y) : ∃ x : Int, cs = ci x ∧ w64 x := by
  obtain ⟨n, e, _, w⟩ := DataW.trod_int Try.underlying2 h
  exact ⟨n, e, w64_of w⟩
theorem num_self (m : PMap) (x : Int) (_ : w64 x) (i : Nat) (hi : i < 1) : RV m ((ci x).getD i undef) ((ci x).getD i undef) := by
  match i, hi with
  | 0, _ => exact .int _ _

end Go.Proofs.Ytkoiolkkceknhaa
