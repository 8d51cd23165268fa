/-
  Words for memory: a struct of a list and a number, and a slice of such structs, that are read; the laws' helpers on one struct.
-/
import Derived.Test.YtkibbomfpklghaaEq2
namespace Go.Proofs.Ytkibbomfpklghaa
open Go.RowKit Go.Deep

/-- A struct value that reads as a list and a number. -/
def RT (w : World) (v : Value) (t : List Int × Int) : Prop := ∃ u, v = .agg #[u, .int .i64 t.2] ∧ RI w u t.1
theorem RT.below {w w' : World} {v : Value} {t : List Int × Int} (h : RT w v t) (hb : Below w.heap.size w w') : RT w' v t := by
  obtain ⟨u, hv, hr⟩ := h
  exact ⟨u, hv, RI.below hr hb⟩

theorem turned_set {w : World} {l hi g k : Nat} (h1 : l ≤ g) (h2 : g < hi) (u : Value) : Turned l hi w (w.setCell ⟨g, k, none⟩ u) :=
  ⟨rfl, rfl, rfl, by simp, fun b hb => Below.heap_setCell _ _ _ _ (by rintro rfl; omega)⟩

set_option maxHeartbeats 400000 in
theorem szTerm_any {w : World} {a : Value} {t : List Int × Int} (left : Int) (ha : RT w a t) (h0 : 0 ≤ left) (h1 : left ≤ 1048576) :
    Calls Try.prog 24 #[a, .int .i64 left] w fun e w' => ∃ r, e = .returned (.int .i64 r) ∧ ((0 ≤ r ∧ r + (t.1.length : Int) ≤ left) ∨ r = -1) ∧ Below w.heap.size w w' := by
  obtain ⟨u, rfl, hu⟩ := ha
  have HU := Lib.hid hu
  obtain ⟨A, c, rfl⟩ := hu.shape
  obtain ⟨xs, x⟩ := t
  simp only at HU ⊢
  clear hu
  go_enter Try.func24, Try.ntmps24
  go_wp2_with fail
  refine (szIntS_any left (HU.out.alloc _) h0 h1).mono ?_
  rintro e w1 ⟨r, rfl, hr, rfl⟩
  have HB : Hid (Below w.heap.size w _) := (Below.refl w.heap.size w).alloc (Nat.le_refl _) (.cells #[.slice A xs.length c, .int .i64 x] 39)
  rcases hr with ⟨r0, r1⟩ | rfl
  · go_wp2
    go_ret
    exact ⟨_, rfl, .inl ⟨r0, r1⟩, HB.out⟩
  · go_wp2
    go_ret
    exact ⟨_, rfl, .inr rfl, HB.out⟩

set_option maxHeartbeats 400000 in
theorem eqTerm_any {w : World} {a b : Value} {s : List Int × Int} (ha : RT w a s) (hb : RT w b s) :
    Calls Try.prog 28 #[a, b] w fun e w' => e = .returned (.bool true) ∧ Below w.heap.size w w' := by
  obtain ⟨u, rfl, hu⟩ := ha
  obtain ⟨v, rfl, hv⟩ := hb
  have HU := Lib.hid (And.intro hu hv)
  obtain ⟨A, c, rfl⟩ := hu.shape
  obtain ⟨A2, c2, rfl⟩ := hv.shape
  obtain ⟨xs, x⟩ := s
  simp only at HU ⊢
  clear hu hv
  go_enter Try.func28, Try.ntmps28
  go_wp2_with fail
  refine (eqIntS_same ((HU.out.1.alloc _).alloc _) ((HU.out.2.alloc _).alloc _)).mono ?_
  rintro e w1 ⟨rfl, b⟩
  have HB := Lib.hid b
  have c1 := b.cell (p := ⟨w.heap.size, 1, none⟩) (by simp <;> omega)
  have c2 := b.cell (p := ⟨w.heap.size + 1, 1, none⟩) (by simp <;> omega)
  rw [World.cell?_alloc_past _ _ _ (by simp <;> omega), World.cell?_alloc_at _ _ _ _ rfl] at c1
  rw [World.cell?_alloc_at _ _ _ _ (by simp <;> omega)] at c2
  have hxx : (x != x) = false := by simp
  clear b
  go_wp2
  go_ret
  exact ⟨rfl, bstep (((Below.refl w.heap.size w).alloc (Nat.le_refl _) _).alloc (by simp) _) HB.out⟩

set_option maxHeartbeats 800000 in
theorem toTermO_any {w : World} {a : Value} {t : List Int × Int} (ha : RT w a t) (hx : t.1.length ≤ 1048576) :
    Calls Try.prog 26 #[a] w fun e w' => ∃ u, e = .returned (.agg #[u, .int .i64 t.2]) ∧ OI w' w.heap.size u t.1 ∧ Below w.heap.size w w' := by
  obtain ⟨u, rfl, hu⟩ := ha
  have HU := Lib.hid hu
  obtain ⟨A, c, rfl⟩ := hu.shape
  obtain ⟨xs, x⟩ := t
  simp only at HU hx ⊢
  clear hu
  go_enter Try.func26, Try.ntmps26
  go_wp2_with fail
  refine (toIntS_any (((HU.out.alloc _).alloc _).alloc _) hx).mono ?_
  rintro e w1 ⟨v, rfl, o, b⟩
  obtain ⟨A1, c1, rfl, -⟩ := OI.form o
  have hsz : (((w.alloc (.cells #[.slice A xs.length c, .int .i64 x] 39)).alloc (.cells #[.slice none 0 0, .int .i64 0] 42)).alloc (.cells #[.slice none 0 0, .int .i64 0] 42)).heap.size = w.heap.size + 3 := by simp
  have k0 := b.cell (p := ⟨w.heap.size, 1, none⟩) (by simp <;> omega)
  have k1 := b.cell (p := ⟨w.heap.size + 1, 0, none⟩) (by simp <;> omega)
  have k2 := b.cell (p := ⟨w.heap.size + 1, 1, none⟩) (by simp <;> omega)
  have k3 := b.cell (p := ⟨w.heap.size + 2, 0, none⟩) (by simp <;> omega)
  have k4 := b.cell (p := ⟨w.heap.size + 2, 1, none⟩) (by simp <;> omega)
  have f1 := b.frozen (p := ⟨w.heap.size + 1, 0, none⟩) (by simp <;> omega)
  have f2 := b.frozen (p := ⟨w.heap.size + 1, 1, none⟩) (by simp <;> omega)
  have f3 := b.frozen (p := ⟨w.heap.size + 2, 0, none⟩) (by simp <;> omega)
  have f4 := b.frozen (p := ⟨w.heap.size + 2, 1, none⟩) (by simp <;> omega)
  rw [World.cell?_alloc_past _ _ _ (by simp <;> omega), World.cell?_alloc_past _ _ _ (by simp <;> omega), World.cell?_alloc_at _ _ _ _ rfl] at k0
  rw [World.cell?_alloc_past _ _ _ (by simp <;> omega), World.cell?_alloc_at _ _ _ _ (by simp <;> omega)] at k1 k2
  rw [World.cell?_alloc_at _ _ _ _ (by simp <;> omega)] at k3 k4
  rw [World.frozen?_alloc_past _ _ _ (by simp <;> omega), World.frozen?_alloc_at _ _ _ _ (by simp <;> omega)] at f1 f2
  rw [World.frozen?_alloc_at _ _ _ _ (by simp <;> omega)] at f3 f4
  have HO := Lib.hid (And.intro o b)
  clear o b hsz
  go_wp2
  refine bodyPost_ret_by (v := .agg #[.slice A1 xs.length c1, .int .i64 x]) (by simp [results, Try.results26, go_sem, k1, k2]) rfl ⟨_, rfl, ?_, ?_⟩
  · refine OI.mono (OI.above HO.out.1 ((((turned_set (l := w.heap.size) (hi := w.heap.size + 3) ?_ ?_ _).trans (turned_set ?_ ?_ _)).trans (turned_set ?_ ?_ _)).trans (turned_set ?_ ?_ _)) ?_) ?_
    all_goals first | omega | (simp <;> omega)
  · have hb0 : Below w.heap.size w w1 := bstep ((((Below.refl w.heap.size w).alloc (Nat.le_refl _) _).alloc (by simp) _).alloc (by simp <;> omega) _) HO.out.2
    refine hb0.trans (Turned.below (lo := w.heap.size) (hi := w.heap.size + 3) ((((turned_set ?_ ?_ _).trans (turned_set ?_ ?_ _)).trans (turned_set ?_ ?_ _)).trans (turned_set ?_ ?_ _)) ?_)
    all_goals first | omega | (simp <;> omega)
theorem toTerm_any {w : World} {a : Value} {t : List Int × Int} (ha : RT w a t) (hx : t.1.length ≤ 1048576) :
    Calls Try.prog 26 #[a] w fun e w' => ∃ v, e = .returned v ∧ RT w' v t ∧ Below w.heap.size w w' :=
  (toTermO_any ha hx).mono fun _ _ ⟨u, he, ho, hb⟩ => ⟨_, he, ⟨u, rfl, ho.reads⟩, hb⟩
end Go.Proofs.Ytkibbomfpklghaa
