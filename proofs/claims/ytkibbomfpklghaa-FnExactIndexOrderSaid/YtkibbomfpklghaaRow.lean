/-
  From the reading of an argument as data to the words of the walks.
-/
import Derived.Test.YtkibbomfpklghaaMem
import Derived.Test.YtkibbomfpklghaaMem2
import Derived.OpenShut
import Derived.ShutString
import Derived.ChangeOld
import Derived.SizedLaws
import Derived.Deep.Matrix
namespace Go.Proofs.Ytkibbomfpklghaa
open Go.ChangeShapes Go.WideShapes Go.ChangeAt Go.RowKit
open Go.ChangeMaps (open_string shut_string)

theorem own : ownKnob Try.prog.godebug = none := by kernel_rfl
theorem laidOut : laidOutB Try.prog = true := by kernel_rfl

/-- Each number fits an int. -/
def Fit (xs : List Int) : Prop := ∀ x ∈ xs, -9223372036854775808 ≤ x ∧ x ≤ 9223372036854775807

theorem fit_of_wf {xs : List Int} (h : ∀ n ∈ xs, (Lit.int .i64 n).wf = true) : Fit xs := fun x hx => by
  have h1 := h x hx
  simp [Lit.wf, IntKind.min, IntKind.signed, IntKind.bits] at h1
  exact h1

theorem fit1_of_wf {x : Int} (h : (Lit.int .i64 x).wf = true) : -9223372036854775808 ≤ x ∧ x ≤ 9223372036854775807 := by
  simp [Lit.wf, IntKind.min, IntKind.signed, IntKind.bits] at h
  exact h

theorem block_lt {w : World} {a : Addr} {u : Value} (h : w.cell? a = some u) : a.block < w.heap.size := World.block_lt_of_cell? _ _ h

/-- A slice of integers that came in. -/
theorem open_RI {H : Type} {enc : TypeId × Value → H} {W : World} {base : Nat} {held : Bool} {A : Option Addr} {len cap : Nat} {d : DataW H} {p : List MemPlace}
    (h : DataW.Trod enc Try.prog W base (fun _ => true) held 33 (.slice A len cap) d p) : ∃ xs, RI W (.slice A len cap) xs ∧ Fit xs ∧ xs.length = len := by
  obtain ⟨fuel, hf⟩ := h
  rcases open_ints Try.underlying33 Try.underlying3 (by kernel_rfl) hf with ⟨hcs, _⟩ | ⟨x, l, c, zs, hcs, _, hl, hm, hz, _, hcell, hwz⟩
  · simp [Value.cells] at hcs
    obtain ⟨rfl, rfl, rfl⟩ := hcs
    exact ⟨[], RI.nil _ _ _, fun _ h => by simp at h, rfl⟩
  · simp [Value.cells] at hcs
    obtain ⟨rfl, rfl, rfl⟩ := hcs
    have hzl : zs.length = cap := by simpa using hz
    have hlen : (zs.take len).length = len := by simp; omega
    refine ⟨zs.take len, ⟨some x, cap, by rw [hlen], by omega, fun h0 => ?_⟩, fun y hy => fit_of_wf hwz y (List.mem_of_mem_take hy), hlen⟩
    obtain ⟨b, off, spot⟩ := x
    have hc := hcell 0 (by omega)
    have hspot : spot = none := by simpa [Addr.add] using World.cell?_spot hc
    subst hspot
    refine ⟨b, off, rfl, ?_, fun k hk => ?_⟩
    · have hb := block_lt hc
      simpa [Addr.add] using hb
    · have hc := hcell k (by omega)
      have e : (Addr.add ⟨b, off, none⟩ k) = ⟨b, off + k, none⟩ := by unfold Addr.add; split <;> simp_all
      rw [e] at hc
      rw [hc]
      have hk2 : k < zs.length := by omega
      have hk3 : k < len := by omega
      simp [List.getElem?_eq_getElem hk2, hk3]

def FitS (xss : List (List Int)) : Prop := ∀ x ∈ xss, Fit x

theorem add_none (b off k : Nat) : Addr.add ⟨b, off, none⟩ k = ⟨b, off + k, none⟩ := by unfold Addr.add; split <;> simp_all

end Go.Proofs.Ytkibbomfpklghaa
