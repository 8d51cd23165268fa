/-
  From the reading of an argument as data to the words of the walks: a struct of a list and a number.
-/
import Derived.Test.YtkibbomfpklghaaRow
import Derived.Test.YtkibbomfpklghaaTermM
import Derived.Lib.SmallJoins
namespace Go.Proofs.Ytkibbomfpklghaa
open Go.Joins Go.ChangeShapes Go.WideShapes Go.ChangeAt Go.RowKit Go.Deep

def FitT (t : List Int × Int) : Prop := Fit t.1 ∧ -9223372036854775808 ≤ t.2 ∧ t.2 ≤ 9223372036854775807
/-- A cell that reads as a list of numbers. -/
theorem cell_RI {H : Type} {enc : TypeId × Value → H} {W : World} {base : Nat} {held : Bool} {fuel : Nat} {v : Value} {x : DataW H × List MemPlace}
    (h : DataW.trod enc Try.prog W base (fun _ => true) held fuel 33 [v] = some x) : ∃ xs, RI W v xs ∧ Fit xs := by
  have hs : ∃ A l c, v = .slice A l c := by
    rcases open_ints Try.underlying33 Try.underlying3 (by kernel_rfl) h with ⟨hcs, _⟩ | ⟨x, l, c, zs, hcs, _⟩
    · simp only [List.cons.injEq, and_true] at hcs
      exact ⟨_, _, _, hcs⟩
    · simp only [List.cons.injEq, and_true] at hcs
      exact ⟨_, _, _, hcs⟩
  obtain ⟨A, l, c, rfl⟩ := hs
  obtain ⟨xs, h1, h2, _⟩ := open_RI (d := x.1) (p := x.2) ⟨fuel, by simpa [Value.cells] using h⟩
  exact ⟨xs, h1, h2⟩
/-- A struct of a list and a number that came in. -/
theorem open_RT {H : Type} {enc : TypeId × Value → H} {W : World} {base b0 : Nat} {held : Bool} {v : Value} {d : DataW H} {p : List MemPlace}
    (hv : Value.okWide Try.prog W .any b0 39 v) (h : DataW.Trod enc Try.prog W base (fun _ => true) held 39 v d p) : ∃ t, RT W v t ∧ FitT t := by
  obtain ⟨v0, v1, y0, y1, n, rfl, -, -, h0, h1⟩ := open_agg2 Try.underlying39 (by kernel_rfl) (by kernel_rfl) hv h
  obtain ⟨xs, hr, hf⟩ := cell_RI h0
  obtain ⟨z, hz, -, hw⟩ := DataW.trod_int Try.underlying3 h1
  simp only [List.cons.injEq, and_true] at hz
  subst hz
  exact ⟨(xs, z), ⟨v0, rfl, hr⟩, hf, fit1_of_wf hw⟩
end Go.Proofs.Ytkibbomfpklghaa
