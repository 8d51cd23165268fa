/-
  The helpers of package laws over slices of slices of integers: equality, copy, size, marks.
-/
import Derived.Test.YtkibbomfpklghaaMem2
import Derived.Test.YtkibbomfpklghaaEq
namespace Go.Proofs.Ytkibbomfpklghaa
open Go.RowKit Go.Deep

/-- How many numbers. -/
def total (xss : List (List Int)) : Nat := (xss.map List.length).sum
theorem total_snoc (xss : List (List Int)) (ys : List Int) : total (xss ++ [ys]) = total xss + ys.length := by simp [total]
theorem total_le_of {xss : List (List Int)} {m : Nat} (h : ∀ x ∈ xss, x.length ≤ m) : total xss ≤ xss.length * m := by
  induction xss with
  | nil => simp [total]
  | cons x l ih =>
    have h1 := h x (by simp)
    have h2 := ih (fun y hy => h y (by simp [hy]))
    simp only [total, List.map_cons, List.sum_cons, List.length_cons, Nat.succ_mul] at *
    omega

theorem takeS_succ {xss : List (List Int)} {k : Nat} (hk : k < xss.length) : xss.take (k + 1) = xss.take k ++ [xss.getD k []] := by
  rw [List.take_add_one, List.getElem?_eq_getElem hk]; simp [hk]
theorem total_take_le (xss : List (List Int)) (k : Nat) : total (xss.take k) ≤ total xss := by
  have h : total xss = total (xss.take k) + total (xss.drop k) := by
    unfold total; rw [← List.sum_append, ← List.map_append, List.take_append_drop]
  omega

/-- The marks of a list of lists: k, k + 1, .. row by row; as far as row j. -/
def markTo (xss : List (List Int)) (k : Int) (j : Nat) : List (List Int) := (List.range xss.length).map fun i => if i < j then marks (xss.getD i []).length (k + (total (xss.take i) : Int)) else xss.getD i []
def markSS (xss : List (List Int)) (k : Int) : List (List Int) := markTo xss k xss.length
theorem markTo_len (xss : List (List Int)) (k : Int) (j : Nat) : (markTo xss k j).length = xss.length := by simp [markTo]
theorem markTo_zero (xss : List (List Int)) (k : Int) : markTo xss k 0 = xss := by
  apply List.ext_getElem
  · simp [markTo]
  · intro i h1 h2; simp [markTo, List.getElem?_eq_getElem h2]
theorem markTo_get {xss : List (List Int)} {k : Int} {j i : Nat} (_h : i < xss.length) (hj : j ≤ i) : (markTo xss k j).getD i [] = xss.getD i [] := by
  simp [markTo, _h, show ¬ i < j from by omega]
theorem markTo_done {xss : List (List Int)} {k : Int} {j i : Nat} (h : i < xss.length) (hj : i < j) : (markTo xss k j).getD i [] = marks (xss.getD i []).length (k + (total (xss.take i) : Int)) := by
  simp [markTo, h, hj]
theorem markTo_set {xss : List (List Int)} {k : Int} {j : Nat} (_h : j < xss.length) : (markTo xss k j).set j (marks (xss.getD j []).length (k + (total (xss.take j) : Int))) = markTo xss k (j + 1) := by
  apply List.ext_getElem
  · simp [markTo]
  · intro i h1 h2
    have hi : i < xss.length := by simpa [markTo] using h2
    rw [List.getElem_set]
    simp only [markTo, List.getElem_map, List.getElem_range]
    by_cases e : j = i
    · subst e; rw [if_pos rfl, if_pos (by omega)]
    · rw [if_neg e]
      by_cases hlt : i < j
      · rw [if_pos hlt, if_pos (by omega)]
      · rw [if_neg hlt, if_neg (by omega)]

theorem szIntS_any {w : World} {a : Value} {xs : List Int} (left : Int) (ha : RI w a xs) (h0 : 0 ≤ left) (h1 : left ≤ 1048576) :
    Calls Try.prog 54 #[a, .int .i64 left] w fun e w' => ∃ r, e = .returned (.int .i64 r) ∧ ((0 ≤ r ∧ r + (xs.length : Int) ≤ left) ∨ r = -1) ∧ w = w' := by
  have hl := ha.lenle
  obtain ⟨A, c, rfl, -⟩ := ha
  by_cases h : left - (xs.length : Int) < 0
  · go_enter Try.func54, Try.ntmps54
    go_wp2
    go_ret
    exact ⟨_, rfl, .inr rfl, rfl⟩
  · go_enter Try.func54, Try.ntmps54
    go_wp2
    go_ret
    exact ⟨_, rfl, .inl (by omega), rfl⟩

/-- The size of a list of lists: below zero where it is too great; else each part is short. -/
def SzOk (xss : List (List Int)) (r : Int) : Prop := (0 ≤ r ∧ xss.length ≤ 1048576 ∧ (∀ x ∈ xss, x.length ≤ 1048576) ∧ total xss ≤ 1048576) ∨ r = -1

theorem len_le_total {xss : List (List Int)} {x : List Int} (h : x ∈ xss) : x.length ≤ total xss := by
  have := (List.sublist_flatten_of_mem h).length_le
  rwa [List.length_flatten] at this
theorem allS_take_succ {p : List (List Int)} {P : List Int → Prop} {k : Nat} (hk : k < p.length) (h : ∀ x ∈ p.take k, P x) (h1 : P (p.getD k [])) : ∀ x ∈ p.take (k + 1), P x := by
  rw [takeS_succ hk]
  intro x hx
  rcases List.mem_append.1 hx with hx | hx
  · exact h x hx
  · simp only [List.mem_singleton] at hx; subst hx; exact h1

theorem copyS_set {xss : List (List Int)} {n i : Nat} (hn : n = xss.length) (hi : i < n) : (xss.take i ++ List.replicate (n - i) []).set i (xss.getD i []) = xss.take (i + 1) ++ List.replicate (n - (i + 1)) [] := by
  have hl : (xss.take i).length = i := by simp; omega
  rw [List.set_append_right _ _ (by omega), hl, Nat.sub_self, show n - i = (n - (i + 1)) + 1 from by omega, List.replicate_succ, List.set_cons_zero, takeS_succ (by omega), List.append_assoc, List.singleton_append]

end Go.Proofs.Ytkibbomfpklghaa
