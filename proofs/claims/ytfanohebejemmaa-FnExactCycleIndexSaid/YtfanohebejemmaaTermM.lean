/-
  Words for memory: a struct of a list and a number, and a slice of such structs, that are read; the laws' helpers on one struct.
-/
import Derived.Test.YtfanohebejemmaaEq2
namespace Go.Proofs.Ytfanohebejemmaa
open Go.RowKit Go.Deep

/-- A struct value that reads as a list and a number. -/
def RT (w : World) (v : Value) (t : List Int × Int) : Prop := ∃ u, v = .agg #[u, .int .i64 t.2] ∧ RI w u t.1
theorem RT.below {w w' : World} {v : Value} {t : List Int × Int} (h : RT w v t) (hb : Below w.heap.size w w') : RT w' v t := by
  obtain ⟨u, hv, hr⟩ := h
  exact ⟨u, hv, RI.below hr hb⟩

theorem turned_set {w : World} {l hi g k : Nat} (h1 : l ≤ g) (h2 : g < hi) (u : Value) : Turned l hi w (w.setCell ⟨g, k, none⟩ u) :=
  ⟨rfl, rfl, rfl, by simp, fun b hb => Below.heap_setCell _ _ _ _ (by rintro rfl; omega)⟩

set_option maxHeartbeats 400000 in
theorem eqTerm_any {w : World} {a b : Value} {s : List Int × Int} (ha : RT w a s) (hb : RT w b s) :
    Calls Try.prog 80 #[a, b] w fun e w' => e = .returned (.bool true) ∧ Below w.heap.size w w' := by
  obtain ⟨u, rfl, hu⟩ := ha
  obtain ⟨v, rfl, hv⟩ := hb
  have HU := Lib.hid (And.intro hu hv)
  obtain ⟨A, c, rfl⟩ := hu.shape
  obtain ⟨A2, c2, rfl⟩ := hv.shape
  obtain ⟨xs, x⟩ := s
  simp only at HU ⊢
  clear hu hv
  go_enter Try.func80, Try.ntmps80
  go_wp2_with fail
  refine (eqIntS_same ((HU.out.1.alloc _).alloc _) ((HU.out.2.alloc _).alloc _)).mono ?_
  rintro e w1 ⟨rfl, b⟩
  have HB := Lib.hid b
  have c1 := b.cell (p := ⟨w.heap.size, 1, none⟩) (by simp <;> omega)
  have c2 := b.cell (p := ⟨w.heap.size + 1, 1, none⟩) (by simp <;> omega)
  rw [World.cell?_alloc_past _ _ _ (by simp <;> omega), World.cell?_alloc_at _ _ _ _ rfl] at c1
  rw [World.cell?_alloc_at _ _ _ _ (by simp <;> omega)] at c2
  have hxx : (x != x) = false := by simp
  clear b
  go_wp2
  go_ret
  exact ⟨rfl, bstep (((Below.refl w.heap.size w).alloc (Nat.le_refl _) _).alloc (by simp) _) HB.out⟩

end Go.Proofs.Ytfanohebejemmaa
