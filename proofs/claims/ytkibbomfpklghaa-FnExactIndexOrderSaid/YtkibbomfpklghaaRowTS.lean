/-
  From the reading of an argument as data to the words of the walks: a slice of structs of a list and a number.
-/
import Derived.Test.YtkibbomfpklghaaRowT
import Derived.Test.YtkibbomfpklghaaTermS
import Derived.Deep.SlicePairs
namespace Go.Proofs.Ytkibbomfpklghaa
open Go.Joins Go.ChangeShapes Go.WideShapes Go.ChangeAt Go.RowKit Go.Deep

def FitTS (ts : List (List Int × Int)) : Prop := ∀ t ∈ ts, FitT t
/-- A slice of structs that came in. -/
theorem open_RTS {H : Type} {enc : TypeId × Value → H} {W : World} {base : Nat} {held : Bool} {A : Option Addr} {len cap : Nat} {d : DataW H} {p : List MemPlace}
    (h : DataW.Trod enc Try.prog W base (fun _ => true) held 56 (.slice A len cap) d p) : ∃ ts, RTS W (.slice A len cap) ts ∧ FitTS ts ∧ ts.length = len := by
  obtain ⟨fuel, hf⟩ := h
  rcases open_slice_pairs Try.underlying56 Try.underlying39 (by kernel_rfl) rfl rfl (by kernel_rfl) (by kernel_rfl) hf with ⟨hcs, _⟩ | ⟨a, l, c, m, n, V0, V1, D0, D1, P0, P1, hcs, _, hl, hm, hmm, _, hall⟩
  · simp [Value.cells] at hcs
    obtain ⟨rfl, rfl, rfl⟩ := hcs
    exact ⟨[], ⟨none, 0, rfl, by simp, fun h => absurd h (by simp)⟩, fun _ h => by simp at h, rfl⟩
  · simp [Value.cells] at hcs
    obtain ⟨rfl, rfl, rfl⟩ := hcs
    simp only [if_true] at hmm
    subst hmm
    have hel : ∀ i, i < m → ∃ t : List Int × Int, RI W (V0 i) t.1 ∧ V1 i = .int .i64 t.2 ∧ FitT t := fun i hi => by
      obtain ⟨_, _, h0, h1⟩ := hall i hi
      obtain ⟨xs, hr, hfx⟩ := cell_RI h0
      obtain ⟨z, hz, -, hw⟩ := DataW.trod_int Try.underlying3 h1
      simp only [List.cons.injEq, and_true] at hz
      exact ⟨(xs, z), hr, hz, hfx, fit1_of_wf hw⟩
    have hch : ∃ f : Nat → List Int × Int, ∀ i, i < m → RI W (V0 i) (f i).1 ∧ V1 i = .int .i64 (f i).2 ∧ FitT (f i) := by
      refine ⟨fun i => if h : i < m then (hel i h).choose else T0, fun i hi => ?_⟩
      simp only [dif_pos hi]
      exact (hel i hi).choose_spec
    obtain ⟨f, hf2⟩ := hch
    refine ⟨(List.range len).map f, ⟨some a, m, by simp, by simp; omega, fun h0 => ?_⟩, fun t ht => ?_, by simp⟩
    · have h0' : 0 < len := by simpa using h0
      obtain ⟨b, off, spot⟩ := a
      have hc := (hall 0 (by omega)).1
      have hspot : spot = none := by simpa [Addr.add] using World.cell?_spot hc
      subst hspot
      refine ⟨b, off, rfl, ?_, fun k hk => ?_⟩
      · have hb := block_lt hc
        simpa [Addr.add] using hb
      · have hk' : k < len := by simpa using hk
        obtain ⟨g1, g2, g3⟩ := hf2 k (by omega)
        obtain ⟨c1, c2, -, -⟩ := hall k (by omega)
        rw [add_none] at c1 c2
        have e : ((List.range len).map f).getD k T0 = f k := by simp [hk']
        rw [e]
        exact ⟨V0 k, c1, by rw [← Nat.add_assoc] at c2; rw [c2, g2], g1⟩
    · obtain ⟨i, hi, rfl⟩ := List.mem_map.1 ht
      exact (hf2 i (by have := List.mem_range.1 hi; omega)).2.2
end Go.Proofs.Ytkibbomfpklghaa
