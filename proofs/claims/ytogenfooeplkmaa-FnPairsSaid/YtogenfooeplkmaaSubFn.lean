/-
  Plain Lean: the subsets of a few points, by both roads.
-/
import Derived.Test.YtogenfooeplkmaaGenFn
namespace Go.Proofs.Ytogenfooeplkmaa

def bitB (s i : Nat) : Bool := decide (s / 2 ^ i % 2 = 1)
def bitsTo (s k : Nat) : List Int := ((List.range k).filter (bitB s)).map fun i : Nat => (i : Int)
def subsTo (n k m : Nat) : List (List Int) := ((List.range m).map fun s => bitsTo s n).filter fun l => l.length == k
/-- The ascending lists of k points from f on up to n. -/
def subs : Nat → Nat → Nat → List (List Int)
  | 0, _, _ => [[]]
  | k + 1, f, n => (List.range (n - f)).flatMap fun d => (subs k (f + d + 1) n).map fun l => ((f + d : Nat) : Int) :: l
/-- As far as point f + d. -/
def subsUp (k f d n : Nat) : List (List Int) := (List.range d).flatMap fun d => (subs k (f + d + 1) n).map fun l => ((f + d : Nat) : Int) :: l
def subsetsOf (n k : Int) : List (List Int) := if 1 ≤ n ∧ n ≤ 5 ∧ 0 ≤ k ∧ k ≤ n then subs k.toNat 0 n.toNat else []
def pairsOf (n : Int) : List (List Int) := if 2 ≤ n ∧ n ≤ 5 then subs 2 0 n.toNat else []

theorem bitsTo_zero (s : Nat) : bitsTo s 0 = [] := rfl
theorem bitsTo_yes {s k : Nat} (h : bitB s k = true) : bitsTo s (k + 1) = bitsTo s k ++ [(k : Int)] := by
  unfold bitsTo; rw [List.range_succ, List.filter_append, List.map_append]; simp [h]
theorem bitsTo_no {s k : Nat} (h : bitB s k = false) : bitsTo s (k + 1) = bitsTo s k := by
  unfold bitsTo; rw [List.range_succ, List.filter_append, List.map_append]; simp [h]
theorem bitsTo_len (s k : Nat) : (bitsTo s k).length ≤ k := by
  unfold bitsTo; rw [List.length_map]
  exact Nat.le_trans (List.length_filter_le _ _) (by simp)
theorem subsTo_zero (n k : Nat) : subsTo n k 0 = [] := rfl
theorem subsTo_yes {n k m : Nat} (h : (bitsTo m n).length = k) : subsTo n k (m + 1) = subsTo n k m ++ [bitsTo m n] := by
  unfold subsTo; rw [List.range_succ, List.map_append, List.filter_append]; simp [h]
theorem subsTo_no {n k m : Nat} (h : (bitsTo m n).length ≠ k) : subsTo n k (m + 1) = subsTo n k m := by
  unfold subsTo; rw [List.range_succ, List.map_append, List.filter_append]; simp [h]
theorem subsTo_len (n k m : Nat) : (subsTo n k m).length ≤ m := by
  unfold subsTo
  exact Nat.le_trans (List.length_filter_le _ _) (by simp)
theorem subs_succ (k f n : Nat) : subs (k + 1) f n = subsUp k f (n - f) n := rfl
theorem subsUp_zero (k f n : Nat) : subsUp k f 0 n = [] := rfl
theorem subsUp_succ (k f d n : Nat) : subsUp k f (d + 1) n = subsUp k f d n ++ (subs k (f + d + 1) n).map fun l => ((f + d : Nat) : Int) :: l := by
  unfold subsUp; rw [List.range_succ, List.flatMap_append]; simp

set_option maxRecDepth 100000 in
set_option maxHeartbeats 2000000 in
theorem subs_check : ∀ n, n < 6 → ∀ k, k < n + 1 → ((subs k 0 n).isPerm (subsTo n k (2 ^ n)) && decide ((subs k 0 n).Pairwise fun a b => leL a b = true)) = true := by decide
theorem subsTo_sorted {n k : Nat} (hn : n ≤ 5) (hk : k ≤ n) : sortL (subsTo n k (2 ^ n)) = subs k 0 n := by
  have h := subs_check n (by omega) k (by omega)
  rw [Bool.and_eq_true] at h
  exact (sortL_unique (of_decide_eq_true h.2) (List.isPerm_iff.1 h.1)).symm
set_option maxRecDepth 100000 in
set_option maxHeartbeats 2000000 in
theorem subs_small : ∀ n, n < 6 → ∀ k, k < n + 1 → (decide (1 ≤ (subs k 0 n).length ∧ (subs k 0 n).length ≤ 10) && (subs k 0 n).all fun l => decide (l.length = k)) = true := by decide
theorem subs_len {n k : Nat} (hn : n ≤ 5) (hk : k ≤ n) : 1 ≤ (subs k 0 n).length ∧ (subs k 0 n).length ≤ 10 := by
  have h := subs_small n (by omega) k (by omega)
  rw [Bool.and_eq_true] at h
  exact of_decide_eq_true h.1
theorem subs_row {n k : Nat} (hn : n ≤ 5) (hk : k ≤ n) : ∀ l ∈ subs k 0 n, l.length = k := fun l hl => by
  have h := subs_small n (by omega) k (by omega)
  rw [Bool.and_eq_true] at h
  exact of_decide_eq_true (List.all_eq_true.1 h.2 l hl)
theorem subsetsOf_yes {n k : Nat} (h1 : 1 ≤ n) (h2 : n ≤ 5) (h3 : k ≤ n) : subsetsOf (n : Int) (k : Int) = subs k 0 n := by
  unfold subsetsOf; rw [if_pos ⟨by omega, by omega, by omega, by omega⟩, Int.toNat_natCast, Int.toNat_natCast]
theorem subsetsOf_no {n k : Int} (h : n < 1 ∨ 5 < n ∨ k < 0 ∨ n < k) : subsetsOf n k = [] := by unfold subsetsOf; rw [if_neg (by omega)]
theorem pairsOf_yes {n : Nat} (h1 : 2 ≤ n) (h2 : n ≤ 5) : pairsOf (n : Int) = subs 2 0 n := by unfold pairsOf; rw [if_pos ⟨by omega, by omega⟩, Int.toNat_natCast]
theorem pairsOf_no {n : Int} (h : n < 2 ∨ 5 < n) : pairsOf n = [] := by unfold pairsOf; rw [if_neg (by omega)]
theorem pairsOf_sub {n : Nat} (h1 : 2 ≤ n) (h2 : n ≤ 5) : pairsOf (n : Int) = subsetsOf (n : Int) 2 := by
  rw [pairsOf_yes h1 h2, show (2 : Int) = ((2 : Nat) : Int) from rfl, subsetsOf_yes (by omega) h2 h1]
theorem subsetsOf_total (n k : Int) : totalL (subsetsOf n k) ≤ 50 := by
  unfold subsetsOf
  split
  · rename_i h
    obtain ⟨n, rfl⟩ := Int.eq_ofNat_of_zero_le (show 0 ≤ n by omega)
    obtain ⟨k, rfl⟩ := Int.eq_ofNat_of_zero_le h.2.2.1
    simp only [Int.toNat_natCast]
    have h1 := subs_len (n := n) (k := k) (by omega) (by omega)
    have : totalL (subs k 0 n) ≤ (subs k 0 n).length * 5 := totalL_le fun l hl => by rw [subs_row (by omega) (by omega) l hl]; omega
    omega
  · simp [totalL]
theorem pairsOf_total (n : Int) : totalL (pairsOf n) ≤ 50 := by
  by_cases h : n < 2 ∨ 5 < n
  · rw [pairsOf_no h]; simp [totalL]
  · obtain ⟨n, rfl⟩ := Int.eq_ofNat_of_zero_le (show 0 ≤ n by omega)
    rw [pairsOf_sub (by omega) (by omega)]; exact subsetsOf_total _ _
end Go.Proofs.Ytogenfooeplkmaa
