/-
  From the reading of an argument of bytes to the words of the walks.
-/
import Derived.Test.YtfanohebejemmaaRow
import Derived.Test.YtfanohebejemmaaDraw
namespace Go.Proofs.Ytfanohebejemmaa
open Go.ChangeShapes Go.WideShapes Go.ChangeAt Go.RowKit
open Go.ChangeMaps (open_string shut_string)

/-- A slice of bytes that came in. -/
theorem open_RBy {H : Type} {enc : TypeId × Value → H} {W : World} {base : Nat} {held : Bool} {A : Option Addr} {len cap : Nat} {d : DataW H} {p : List MemPlace}
    (h : DataW.Trod enc Try.prog W base (fun _ => true) held 41 (.slice A len cap) d p) : RBy W W.heap.size (.slice A len cap) len := by
  obtain ⟨fuel, hf⟩ := h
  rcases open_ints Try.underlying41 Try.underlying5 (by kernel_rfl) hf with ⟨hcs, _⟩ | ⟨x, l, c, zs, hcs, _, hl, hm, hz, _, hcell, hwz⟩
  · simp [Value.cells] at hcs
    obtain ⟨rfl, rfl, rfl⟩ := hcs
    exact ⟨none, 0, rfl, by simp, fun h => absurd h (by simp)⟩
  · simp [Value.cells] at hcs
    obtain ⟨rfl, rfl, rfl⟩ := hcs
    have hzl : zs.length = cap := by simpa using hz
    refine ⟨some x, cap, rfl, by omega, fun h0 => ?_⟩
    obtain ⟨b, off, spot⟩ := x
    have hc := hcell 0 (by omega)
    have hspot : spot = none := by simpa [Addr.add] using World.cell?_spot hc
    subst hspot
    refine ⟨b, off, rfl, ?_, fun k hk => ?_⟩
    · have hb := block_lt hc
      simpa [Addr.add] using hb
    · have hc := hcell k (by omega)
      rw [add_none] at hc
      have hk2 : k < zs.length := by omega
      have hw := hwz (zs.getD k 0) (by simp [List.getElem?_eq_getElem hk2])
      refine ⟨zs.getD k 0, by rw [hc], ?_⟩
      simp [Lit.wf, IntKind.min, IntKind.max, IntKind.signed, IntKind.bits] at hw
      simp only [List.getD_eq_getElem?_getD, List.getElem?_eq_getElem hk2, Option.getD_some] at hw ⊢
      omega
end Go.Proofs.Ytfanohebejemmaa
