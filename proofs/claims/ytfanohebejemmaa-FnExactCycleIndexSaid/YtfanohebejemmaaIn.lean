/-
  l01In of the reference: is a number from lo to hi?
-/
import Derived.Test.YtfanohebejemmaaMem
namespace Go.Proofs.Ytfanohebejemmaa
open Go.RowKit

theorem l01In_any (n lo hi : Int) (w : World) : Calls Try.prog 53 #[.int .i64 n, .int .i64 lo, .int .i64 hi] w fun e w' => e = .returned (.bool (decide (lo ≤ n ∧ n ≤ hi))) ∧ w = w' := by
  by_cases h1 : lo ≤ n
  · by_cases h2 : n ≤ hi
    all_goals
      go_enter Try.func53, Try.ntmps53
      go_wp2
      go_ret
      exact ⟨retB (by simp; omega), rfl⟩
  · go_enter Try.func53, Try.ntmps53
    go_wp2
    go_ret
    exact ⟨retB (by simp; omega), rfl⟩

theorem l01In_yes (n lo hi : Int) (w : World) (h1 : lo ≤ n) (h2 : n ≤ hi) : Calls Try.prog 53 #[.int .i64 n, .int .i64 lo, .int .i64 hi] w fun e w' => e = .returned (.bool true) ∧ w = w' :=
  (l01In_any n lo hi w).mono fun _ _ ⟨h, hw⟩ => ⟨by rw [h, decide_eq_true ⟨h1, h2⟩], hw⟩
theorem l01In_no (n lo hi : Int) (w : World) (h : n < lo ∨ hi < n) : Calls Try.prog 53 #[.int .i64 n, .int .i64 lo, .int .i64 hi] w fun e w' => e = .returned (.bool false) ∧ w = w' :=
  (l01In_any n lo hi w).mono fun _ _ ⟨h', hw⟩ => ⟨by rw [h', decide_eq_false (by omega)], hw⟩

end Go.Proofs.Ytfanohebejemmaa
