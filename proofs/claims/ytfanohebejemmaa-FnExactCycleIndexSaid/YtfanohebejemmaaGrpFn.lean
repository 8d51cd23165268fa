/-
  Plain Lean: what the program's functions on groups compute.
-/
import Derived.Test.YtfanohebejemmaaOrdFn
import Derived.Test.YtfanohebejemmaaCycFn
namespace Go.Proofs.Ytfanohebejemmaa

def deg (g : List (List Int)) : Nat := (g.getD 0 []).length
/-- What GroupOk tells. -/
structure Grp (g : List (List Int)) : Prop where
  one : 1 ≤ g.length
  le : g.length ≤ 120
  perm : ∀ p ∈ g, permOk p = true
  len : ∀ p ∈ g, p.length = deg g
  asc : Asc g
  closed : ∀ p ∈ g, ∀ q ∈ g, compose p q ∈ g
theorem grp_of {g : List (List Int)} (h : groupOk g = true) : Grp g := by
  obtain ⟨⟨h1, h2⟩, h3, h4⟩ := groupOk_iff.1 h
  exact ⟨h1, h2, fun p hp => (rows_perm h3 hp).1, fun p hp => (rows_perm h3 hp).2, rows_asc h3, h4⟩
theorem Grp.deg_le {g : List (List Int)} (h : Grp g) : 1 ≤ deg g ∧ deg g ≤ 10 := by
  have hm := getD_memS (g := g) (k := 0) h.one
  have := permOk_le (h.perm _ hm)
  exact this
theorem Grp.at {g : List (List Int)} (h : Grp g) {k : Nat} (hk : k < g.length) : permOk (g.getD k []) = true ∧ (g.getD k []).length = deg g := ⟨h.perm _ (getD_memS hk), h.len _ (getD_memS hk)⟩

def hasPerm (g : List (List Int)) (p : List Int) : Bool := groupOk g && decide (p ∈ g)

/-- How many of the first j points are kept. -/
def fixTo (p : List Int) (j : Nat) : Nat := ((List.range j).filter fun i => p.getD i 0 == (i : Int)).length
def fixPts (p : List Int) : Nat := fixTo p p.length
def fixSum (g : List (List Int)) : Nat := (g.map fixPts).sum
def fixedPairs (g : List (List Int)) : Int := if groupOk g = true then (fixSum g : Int) else -1
theorem fixTo_succ (p : List Int) (j : Nat) : fixTo p (j + 1) = fixTo p j + (if p.getD j 0 = (j : Int) then 1 else 0) := by
  unfold fixTo
  rw [List.range_succ, List.filter_append, List.length_append]
  by_cases h : p.getD j 0 = (j : Int)
  · rw [if_pos h]
    have : (p.getD j 0 == (j : Int)) = true := by rw [h]; simp
    simp only [List.filter_cons, this, List.filter_nil, if_true, List.length_cons, List.length_nil]
  · rw [if_neg h]
    have : (p.getD j 0 == (j : Int)) = false := beq_eq_false_iff_ne.2 h
    simp only [List.filter_cons, this, List.filter_nil, Bool.false_eq_true, if_false, List.length_nil]
theorem fixTo_le (p : List Int) (j : Nat) : fixTo p j ≤ j := by
  unfold fixTo
  have := List.length_filter_le (fun i => p.getD i 0 == (i : Int)) (List.range j)
  simpa using this
theorem takeG_succ {g : List (List Int)} {k : Nat} (hk : k < g.length) : g.take (k + 1) = g.take k ++ [g.getD k []] := by
  rw [List.take_add_one, List.getElem?_eq_getElem hk]; simp [hk]
theorem fixSum_succ {g : List (List Int)} {k : Nat} (hk : k < g.length) : fixSum (g.take (k + 1)) = fixSum (g.take k) + fixPts (g.getD k []) := by
  rw [takeG_succ hk]; simp [fixSum]
theorem fixSum_le {g : List (List Int)} (h : ∀ p ∈ g, p.length ≤ 10) : fixSum g ≤ g.length * 10 := by
  induction g with
  | nil => simp [fixSum]
  | cons p g ih =>
    have h1 := h p (by simp)
    have h2 := ih (fun q hq => h q (by simp [hq]))
    have h3 := fixTo_le p p.length
    simp only [fixSum, List.map_cons, List.sum_cons, List.length_cons] at *
    unfold fixPts at *
    omega
theorem Grp.short {g : List (List Int)} (h : Grp g) : ∀ p ∈ g, p.length ≤ 10 := fun p hp => (permOk_le (h.perm p hp)).2
theorem fixSum_take {g : List (List Int)} (h : Grp g) (k : Nat) : fixSum (g.take k) ≤ 1200 := by
  have h1 := fixSum_le (g := g.take k) fun p hp => h.short p (List.mem_of_mem_take hp)
  have h2 : (g.take k).length ≤ 120 := by rw [List.length_take]; have := h.le; omega
  omega

def isAbelian (g : List (List Int)) : Bool := groupOk g && g.all fun p => g.all fun q => decide (compose p q = compose q p)
theorem isAbelian_no {g : List (List Int)} {p q : List Int} (hp : p ∈ g) (hq : q ∈ g) (h : compose p q ≠ compose q p) : isAbelian g = false := by
  unfold isAbelian
  rw [Bool.and_eq_false_iff]
  right
  rw [Bool.eq_false_iff]
  intro e
  have := List.all_eq_true.1 (List.all_eq_true.1 e p hp) q hq
  exact h (of_decide_eq_true this)
theorem isAbelian_yes {g : List (List Int)} (hg : groupOk g = true) (h : ∀ p ∈ g, ∀ q ∈ g, compose p q = compose q p) : isAbelian g = true := by
  unfold isAbelian
  rw [hg, Bool.true_and, List.all_eq_true]
  intro p hp
  rw [List.all_eq_true]
  intro q hq
  exact decide_eq_true (h p hp q hq)
theorem isAbelian_bad {g : List (List Int)} (hg : groupOk g = false) : isAbelian g = false := by unfold isAbelian; rw [hg]; rfl
theorem hasPerm_bad {g : List (List Int)} {p : List Int} (hg : groupOk g = false) : hasPerm g p = false := by unfold hasPerm; rw [hg]; rfl
theorem hasPerm_ok {g : List (List Int)} {p : List Int} (hg : groupOk g = true) : hasPerm g p = decide (p ∈ g) := by unfold hasPerm; rw [hg]; rfl
theorem fixedPairs_bad {g : List (List Int)} (hg : groupOk g = false) : fixedPairs g = -1 := by unfold fixedPairs; rw [if_neg (by rw [hg]; simp)]
theorem fixedPairs_ok {g : List (List Int)} (hg : groupOk g = true) : fixedPairs g = (fixSum g : Int) := by unfold fixedPairs; rw [if_pos hg]

def stab (g : List (List Int)) (x : Int) : List (List Int) := g.filter fun p => p.getD x.toNat 0 == x
def stabilizerOf (g : List (List Int)) (x : Int) : List (List Int) := if groupOk g = true ∧ 0 ≤ x ∧ x < (deg g : Int) then stab g x else []
theorem stabilizerOf_ok {g : List (List Int)} {x : Int} (hg : groupOk g = true) (h0 : 0 ≤ x) (h1 : x < (deg g : Int)) : stabilizerOf g x = stab g x := by unfold stabilizerOf; rw [if_pos ⟨hg, h0, h1⟩]
theorem stabilizerOf_bad {g : List (List Int)} {x : Int} (h : groupOk g = false ∨ x < 0 ∨ (deg g : Int) ≤ x) : stabilizerOf g x = [] := by
  unfold stabilizerOf
  rw [if_neg]
  rintro ⟨h1, h2, h3⟩
  rcases h with h | h | h
  · rw [h1] at h; cases h
  · omega
  · omega
theorem stab_snoc (g : List (List Int)) (p : List Int) (x : Int) : stab (g ++ [p]) x = if p.getD x.toNat 0 = x then stab g x ++ [p] else stab g x := by
  unfold stab
  rw [List.filter_append]
  by_cases h : p.getD x.toNat 0 = x
  · rw [if_pos h]
    have : (p.getD x.toNat 0 == x) = true := by rw [h]; simp
    simp only [List.filter_cons, this, List.filter_nil, if_true]
  · rw [if_neg h]
    have : (p.getD x.toNat 0 == x) = false := beq_eq_false_iff_ne.2 h
    simp only [List.filter_cons, this, List.filter_nil]
    simp
theorem stab_len (g : List (List Int)) (x : Int) : (stab g x).length ≤ g.length := List.length_filter_le _ _
def totalL (g : List (List Int)) : Nat := (g.map List.length).sum
theorem totalL_le {g : List (List Int)} {m : Nat} (h : ∀ x ∈ g, x.length ≤ m) : totalL g ≤ g.length * m := by
  induction g with
  | nil => simp [totalL]
  | cons x l ih =>
    have h1 := h x (by simp)
    have h2 := ih (fun y hy => h y (by simp [hy]))
    simp only [totalL, List.map_cons, List.sum_cons, List.length_cons, Nat.succ_mul] at *
    omega
theorem stabilizerOf_total (g : List (List Int)) (x : Int) : totalL (stabilizerOf g x) ≤ 1200 := by
  unfold stabilizerOf
  split
  · rename_i h
    have hg := grp_of h.1
    have h1 := totalL_le (g := stab g x) (m := 10) fun p hp => hg.short p (List.mem_filter.1 hp).1
    have h2 := stab_len g x
    have := hg.le
    omega
  · simp [totalL]
/-- The sum over the group of k to the power of the number of cycles. -/
def colSum (g : List (List Int)) (k : Nat) : Nat := (g.map fun p => k ^ (cyclesOf p).length).sum
def countColorings (g : List (List Int)) (k : Int) : Int := if groupOk g = true ∧ 0 ≤ k ∧ k ≤ 4 then ((colSum g k.toNat / g.length : Nat) : Int) else -1
theorem countColorings_ok {g : List (List Int)} {k : Nat} (hg : groupOk g = true) (h : (k : Int) ≤ 4) : countColorings g k = ((colSum g k / g.length : Nat) : Int) := by unfold countColorings; rw [if_pos ⟨hg, by omega, h⟩, Int.toNat_natCast]
theorem countColorings_bad {g : List (List Int)} {k : Int} (h : groupOk g = false ∨ k < 0 ∨ 4 < k) : countColorings g k = -1 := by
  unfold countColorings
  rw [if_neg]
  rintro ⟨h1, h2, h3⟩
  rcases h with h | h | h
  · rw [h1] at h; cases h
  · omega
  · omega
theorem colSum_succ {g : List (List Int)} {k j : Nat} (hj : j < g.length) : colSum (g.take (j + 1)) k = colSum (g.take j) k + k ^ (cyclesOf (g.getD j [])).length := by
  rw [takeG_succ hj]; simp [colSum]
theorem pow_le_4 {k n : Nat} (hk : k ≤ 4) (hn : n ≤ 10) : k ^ n ≤ 1048576 :=
  Nat.le_trans (Nat.pow_le_pow_left hk n) (Nat.le_trans (Nat.pow_le_pow_right (by omega) hn) (by decide))
theorem colSum_le {g : List (List Int)} {k : Nat} (hk : k ≤ 4) : colSum g k ≤ g.length * 1048576 := by
  induction g with
  | nil => simp [colSum]
  | cons p g ih =>
    have h1 := pow_le_4 hk (cyclesOf_len p)
    simp only [colSum, List.map_cons, List.sum_cons, List.length_cons] at *
    omega
theorem colSum_take {g : List (List Int)} (h : Grp g) {k : Nat} (hk : k ≤ 4) (j : Nat) : colSum (g.take j) k ≤ 125829120 := by
  have h1 := colSum_le (g := g.take j) hk
  have h2 : (g.take j).length ≤ 120 := by rw [List.length_take]; have := h.le; omega
  omega
end Go.Proofs.Ytfanohebejemmaa
