/-
  From the reading of an argument as data to the words of the walks.
-/
import Derived.Test.YtfanohebejemmaaMem
import Derived.Test.YtfanohebejemmaaMem2
import Derived.OpenShut
import Derived.ShutString
import Derived.ChangeOld
import Derived.SizedLaws
import Derived.Deep.Matrix
namespace Go.Proofs.Ytfanohebejemmaa
open Go.ChangeShapes Go.WideShapes Go.ChangeAt Go.RowKit
open Go.ChangeMaps (open_string shut_string)

theorem own : ownKnob Try.prog.godebug = none := by kernel_rfl
theorem laidOut : laidOutB Try.prog = true := by kernel_rfl

/-- Each number fits an int. -/
def Fit (xs : List Int) : Prop := ∀ x ∈ xs, -9223372036854775808 ≤ x ∧ x ≤ 9223372036854775807

theorem fit_of_wf {xs : List Int} (h : ∀ n ∈ xs, (Lit.int .i64 n).wf = true) : Fit xs := fun x hx => by
  have h1 := h x hx
  simp [Lit.wf, IntKind.min, IntKind.signed, IntKind.bits] at h1
  exact h1

theorem fit1_of_wf {x : Int} (h : (Lit.int .i64 x).wf = true) : -9223372036854775808 ≤ x ∧ x ≤ 9223372036854775807 := by
  simp [Lit.wf, IntKind.min, IntKind.signed, IntKind.bits] at h
  exact h

theorem block_lt {w : World} {a : Addr} {u : Value} (h : w.cell? a = some u) : a.block < w.heap.size := World.block_lt_of_cell? _ _ h

/-- A slice of integers that came in. -/
theorem open_RI {H : Type} {enc : TypeId × Value → H} {W : World} {base : Nat} {held : Bool} {A : Option Addr} {len cap : Nat} {d : DataW H} {p : List MemPlace}
    (h : DataW.Trod enc Try.prog W base (fun _ => true) held 27 (.slice A len cap) d p) : ∃ xs, RI W (.slice A len cap) xs ∧ Fit xs ∧ xs.length = len := by
  obtain ⟨fuel, hf⟩ := h
  rcases open_ints Try.underlying27 Try.underlying3 (by kernel_rfl) hf with ⟨hcs, _⟩ | ⟨x, l, c, zs, hcs, _, hl, hm, hz, _, hcell, hwz⟩
  · simp [Value.cells] at hcs
    obtain ⟨rfl, rfl, rfl⟩ := hcs
    exact ⟨[], RI.nil _ _ _, fun _ h => by simp at h, rfl⟩
  · simp [Value.cells] at hcs
    obtain ⟨rfl, rfl, rfl⟩ := hcs
    have hzl : zs.length = cap := by simpa using hz
    have hlen : (zs.take len).length = len := by simp; omega
    refine ⟨zs.take len, ⟨some x, cap, by rw [hlen], by omega, fun h0 => ?_⟩, fun y hy => fit_of_wf hwz y (List.mem_of_mem_take hy), hlen⟩
    obtain ⟨b, off, spot⟩ := x
    have hc := hcell 0 (by omega)
    have hspot : spot = none := by simpa [Addr.add] using World.cell?_spot hc
    subst hspot
    refine ⟨b, off, rfl, ?_, fun k hk => ?_⟩
    · have hb := block_lt hc
      simpa [Addr.add] using hb
    · have hc := hcell k (by omega)
      have e : (Addr.add ⟨b, off, none⟩ k) = ⟨b, off + k, none⟩ := by unfold Addr.add; split <;> simp_all
      rw [e] at hc
      rw [hc]
      have hk2 : k < zs.length := by omega
      have hk3 : k < len := by omega
      simp [List.getElem?_eq_getElem hk2, hk3]

def FitS (xss : List (List Int)) : Prop := ∀ x ∈ xss, Fit x

theorem add_none (b off k : Nat) : Addr.add ⟨b, off, none⟩ k = ⟨b, off + k, none⟩ := by unfold Addr.add; split <;> simp_all

/-- A slice of slices of integers that came in. -/
theorem open_RII {H : Type} {enc : TypeId × Value → H} {W : World} {base : Nat} {held : Bool} {A : Option Addr} {len cap : Nat} {d : DataW H} {p : List MemPlace}
    (h : DataW.Trod enc Try.prog W base (fun _ => true) held 22 (.slice A len cap) d p) : ∃ xss, RII W (.slice A len cap) xss ∧ FitS xss ∧ xss.length = len := by
  obtain ⟨fuel, hf⟩ := h
  rcases Go.Deep.open_int_rows Try.underlying22 Try.underlying27 Try.underlying3 (by kernel_rfl) (by kernel_rfl) hf with ⟨hcs, _⟩ | ⟨x, l, c, AA, L, C, Z, hcs, _, hl, hm, _, hrows⟩
  · simp [Value.cells] at hcs
    obtain ⟨rfl, rfl, rfl⟩ := hcs
    exact ⟨[], RII.nil _ _ _, fun _ h => by simp at h, rfl⟩
  · simp [Value.cells] at hcs
    obtain ⟨rfl, rfl, rfl⟩ := hcs
    refine ⟨(List.range len).map fun r => (Z r).take (L r), ⟨some x, cap, by simp, by simp; omega, fun h0 => ?_⟩, ?_, by simp⟩
    · have h0' : 0 < len := by simpa using h0
      obtain ⟨b, off, spot⟩ := x
      have hc := (hrows 0 (by omega)).1
      have hspot : spot = none := by simpa [Addr.add] using World.cell?_spot hc
      subst hspot
      refine ⟨b, off, rfl, ?_, fun k hk => ?_⟩
      · have hb := block_lt hc
        simpa [Addr.add] using hb
      · have hk' : k < len := by simpa using hk
        obtain ⟨hc, hLC, hCm, hZ, hwf, hnil, hcell⟩ := hrows k (by omega)
        rw [add_none] at hc
        refine ⟨_, hc, ?_⟩
        have e : ((List.range len).map fun r => (Z r).take (L r)).getD k [] = (Z k).take (L k) := by simp [hk']
        rw [e]
        have hlen : ((Z k).take (L k)).length = L k := by simp; omega
        refine ⟨AA k, C k, by rw [hlen], by rw [hlen]; omega, fun h1 => ?_⟩
        rw [hlen] at h1 ⊢
        cases hA : AA k with
        | none => have := hnil hA; omega
        | some a' =>
          obtain ⟨_, hcell⟩ := hcell a' hA
          obtain ⟨b', off', spot'⟩ := a'
          have hc0 := hcell 0 (by omega)
          have hspot' : spot' = none := by simpa [Addr.add] using World.cell?_spot hc0
          subst hspot'
          refine ⟨b', off', rfl, ?_, fun i hi => ?_⟩
          · have hb := block_lt hc0
            simpa [Addr.add] using hb
          · have hc1 := hcell i (by omega)
            rw [add_none] at hc1
            rw [hc1]
            have h2 : i < (Z k).length := by omega
            simp [List.getElem?_eq_getElem h2, hi]
    · intro y hy
      obtain ⟨r, hr, rfl⟩ := List.mem_map.1 hy
      have hr' := List.mem_range.1 hr
      obtain ⟨_, _, _, _, hwf, _⟩ := hrows r (by omega)
      exact fun z hz => fit_of_wf hwf z (List.mem_of_mem_take hz)
end Go.Proofs.Ytfanohebejemmaa
