/-
  The draws of strings.
-/
import Derived.Test.YtkibbomfpklghaaDraw
import Derived.Test.YtkibbomfpklghaaMemS
namespace Go.Proofs.Ytkibbomfpklghaa
open Go.RowKit Go.Deep

theorem grownBy_alloc {w wr : World} {row : Option Nat} (h : w.grownBy wr row) (o : Obj) : w.grownBy (wr.alloc o) row := grownBy_below h ((Below.refl _ _).alloc h.size o)

set_option maxHeartbeats 1000000 in
theorem l01Str_any {w : World} {lo g : Nat} (hc : Cur w lo g) {b : Nat} (hb : b < w.heap.size) (hne : b ≠ g) (hcell : ∀ k, k < 5 → ∃ s : ByteArray, s.size ≤ 2 ∧ w.cell? ⟨b, k, none⟩ = some (.string s)) :
    Calls Try.prog 60 #[.pointer (some ⟨g, 0, none⟩), .slice (some ⟨b, 0, none⟩) 5 5] w fun e w' => ∃ s : ByteArray, e = .returned (.string s) ∧ s.size ≤ 2 ∧ Cur w' lo g ∧ w.grownBy w' (some g) := by
  have HC := Lib.hid hcell
  clear hcell
  go_enter Try.func60, Try.ntmps60
  go_wp2_with fail
  refine (l01Below_any hc 5 (by omega) (by omega) _ (by omega)).mono ?_
  rintro e w1 ⟨x, rfl, hx, h1, h2⟩
  obtain ⟨s, hs, c1⟩ := HC.out x hx
  have c2 := (World.cell?_of_block (a := ⟨b, x, none⟩) (h2.block b hb (by intro e; cases e; exact hne rfl))).trans c1
  have HN := Lib.hid (And.intro h1 h2)
  clear c1 h1 h2
  go_wp2_with fail
  go_ret
  exact ⟨s, rfl, hs, HN.out⟩

set_option maxHeartbeats 1000000 in
theorem MakeText_any {w : World} {v : Value} {n : Nat} (hv : RBy w w.heap.size v n) :
    Calls Try.prog 35 #[v] w fun e w' => ∃ s : ByteArray, e = .returned (.string s) ∧ s.size ≤ 16 ∧ Below w.heap.size w w' := by
  have HB := Lib.hid hv
  obtain ⟨A, c, rfl, hn, hx⟩ := hv
  clear hx
  go_enter Try.func35, Try.ntmps35
  go_wp2_with fail
  refine (l01New_any HB.out).mono ?_
  rintro e w1 ⟨g, rfl, hc, hb⟩
  have HC := Lib.hid (And.intro hc hb)
  clear hc hb
  go_wp2_with fail
  refine (l01Below_any HC.out.1 8 (by omega) (by omega) _ (by omega)).mono ?_
  rintro e w2 ⟨m, rfl, hm, h1, h2⟩
  have HD : Hid (Cur w2 w.heap.size g ∧ Below w.heap.size w w2) := ⟨h1, HC.out.2.grown h2 HC.out.2.size (fun k hk => by cases hk; exact h1.le)⟩
  clear h1 h2
  go_wp2_with fail
  go_loopw [4, 5] (fun s i wr => ∃ (k : Nat) (t : ByteArray), k ≤ 7 ∧ i = .int .i64 k ∧ s = .string t ∧ t.size + 2 * k ≤ 16 ∧ Hid (Cur wr w.heap.size g ∧ Below w.heap.size w wr)) (fun _ i _ => (intOf i).toNat)
  case atStart => exact ⟨m, ⟨#[]⟩, by omega, rfl, rfl, by show 0 + 2 * m ≤ 16; omega, HD.out⟩
  case round =>
    obtain ⟨k, t, hk, rfl, rfl, ht, HR⟩ := hrel
    by_cases hlt : 0 < k
    · have hlt2 : (0 : Int) < k := by omega
      go_wp2_with fail
      have hcells : ∀ j, j < 5 → ∃ s : ByteArray, s.size ≤ 2 ∧ (wr.alloc (.cells #[.string ⟨#[97]⟩, .string ⟨#[98, 99]⟩, .string ⟨#[32]⟩, .string ⟨#[44]⟩, .string ⟨#[120, 49]⟩] 9)).cell? ⟨wr.heap.size, j, none⟩ = some (.string s) := by
        intro j hj
        have hr := World.rowIs_alloc wr #[.string ⟨#[97]⟩, .string ⟨#[98, 99]⟩, .string ⟨#[32]⟩, .string ⟨#[44]⟩, .string ⟨#[120, 49]⟩] 9 (fun j => #[Value.string ⟨#[97]⟩, .string ⟨#[98, 99]⟩, .string ⟨#[32]⟩, .string ⟨#[44]⟩, .string ⟨#[120, 49]⟩].getD j (.bool false)) (fun i hi => by
          match i, hi with
          | 0, _ => rfl
          | 1, _ => rfl
          | 2, _ => rfl
          | 3, _ => rfl
          | 4, _ => rfl)
        have hcj := hr.cell (i := j) hj
        match j, hj with
        | 0, _ => exact ⟨_, by decide, hcj⟩
        | 1, _ => exact ⟨_, by decide, hcj⟩
        | 2, _ => exact ⟨_, by decide, hcj⟩
        | 3, _ => exact ⟨_, by decide, hcj⟩
        | 4, _ => exact ⟨_, by decide, hcj⟩
      have hcu := HR.out.1.below ((Below.refl wr.heap.size wr).alloc (Nat.le_refl _) (.cells #[.string ⟨#[97]⟩, .string ⟨#[98, 99]⟩, .string ⟨#[32]⟩, .string ⟨#[44]⟩, .string ⟨#[120, 49]⟩] 9))
      refine (l01Str_any hcu (by simp) (by have := HR.out.1.lt; omega) hcells).mono ?_
      rintro e w3 ⟨s, rfl, hs, h1, h2⟩
      have HN : Hid (Cur w3 w.heap.size g ∧ Below w.heap.size w w3) := by
        have hb := HR.out.2.alloc HR.out.2.size (.cells #[.string ⟨#[97]⟩, .string ⟨#[98, 99]⟩, .string ⟨#[32]⟩, .string ⟨#[44]⟩, .string ⟨#[120, 49]⟩] 9)
        exact ⟨h1, hb.grown h2 hb.size (fun k hk => by cases hk; exact h1.le)⟩
      have hsum : t.size + s.size ≤ 9223372036854775807 := by omega
      clear hcells hcu h1 h2
      go_wp2_with fail
      go_roundw
      case rel => exact ⟨k - 1, t ++ s, by omega, by congr 1; omega, rfl, by rw [ByteArray.size_append]; omega, HN.out⟩
      case measure => simp [intOf]; omega
    · have hlt2 : ¬ (0 : Int) < k := by omega
      go_wp2_with fail
      go_ret
      exact ⟨t, rfl, by omega, HR.out.2⟩
end Go.Proofs.Ytkibbomfpklghaa
