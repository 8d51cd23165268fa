/-
  Plain Lean: the generators of cyclic, dihedral and symmetric groups.
-/
import Derived.Test.YtfanohebejemmaaGenFn
namespace Go.Proofs.Ytfanohebejemmaa

def turnL (n : Nat) : List Int := (List.range n).map fun i : Nat => (((i + 1) % n : Nat) : Int)
def mirL (n : Nat) : List Int := (List.range n).map fun i : Nat => (((n - 1 - i : Nat)) : Int)
def swapL (n : Nat) : List Int := if 1 < n then ((identity n).set 0 1).set 1 0 else identity n
def turnP (n : Int) : List Int := if 1 ≤ n ∧ n ≤ 10 then turnL n.toNat else []
def mirP (n : Int) : List Int := if 1 ≤ n ∧ n ≤ 10 then mirL n.toNat else []
def cyclicGroup (n : Int) : List (List Int) × Bool := groupOf n [turnP n]
def dihedralGroup (n : Int) : List (List Int) × Bool := groupOf n [turnP n, mirP n]
def symmetricGroup (n : Int) : List (List Int) × Bool := if 1 ≤ n ∧ n ≤ 5 then groupOf n [turnP n, swapL n.toNat] else ([], false)
/-- The row while turn fills it. -/
def turnTo (n k : Nat) : List Int := (List.range n).map fun i : Nat => if i < k then (((i + 1) % n : Nat) : Int) else (i : Int)
theorem turnTo_len (n k : Nat) : (turnTo n k).length = n := by simp [turnTo]
theorem turnL_len (n : Nat) : (turnL n).length = n := by simp [turnL]
theorem mirL_len (n : Nat) : (mirL n).length = n := by simp [mirL]
theorem turnTo_zero (n : Nat) : turnTo n 0 = identity n := by simp [turnTo, identity]
theorem turnTo_end (n : Nat) : turnTo n n = turnL n := by
  unfold turnTo turnL
  apply List.map_congr_left
  intro i hi
  rw [if_pos (List.mem_range.1 hi)]
theorem turnTo_set {n k : Nat} (_hk : k < n) : (turnTo n k).set k ((((k + 1) % n : Nat)) : Int) = turnTo n (k + 1) := by
  apply List.ext_getElem
  · simp [turnTo]
  · intro i h1 h2
    have hi : i < n := by simpa [turnTo] using h2
    rw [List.getElem_set]
    simp only [turnTo, List.getElem_map, List.getElem_range]
    by_cases h : k = i
    · subst h; rw [if_pos rfl, if_pos (by omega)]
    · rw [if_neg h]
      by_cases h3 : i < k
      · rw [if_pos h3, if_pos (by omega)]
      · rw [if_neg h3, if_neg (by omega)]
def turnUp (n k : Nat) : List Int := (List.range k).map fun i : Nat => (((i + 1) % n : Nat) : Int)
def mirUp (n k : Nat) : List Int := (List.range k).map fun i : Nat => (((n - 1 - i : Nat)) : Int)
theorem turnUp_succ (n k : Nat) : turnUp n (k + 1) = turnUp n k ++ [(((k + 1) % n : Nat) : Int)] := by simp [turnUp, List.range_succ]
theorem mirUp_succ (n k : Nat) : mirUp n (k + 1) = mirUp n k ++ [((n - 1 - k : Nat) : Int)] := by simp [mirUp, List.range_succ]
theorem turnUp_len (n k : Nat) : (turnUp n k).length = k := by simp [turnUp]
theorem mirUp_len (n k : Nat) : (mirUp n k).length = k := by simp [mirUp]
theorem identity_rev (n : Nat) : (identity n).reverse = mirL n := by
  apply List.ext_getElem
  · simp [identity, mirL]
  · intro i h1 h2
    have hi : i < n := by simpa [mirL] using h2
    simp [identity, mirL]
theorem turnP_yes {n : Nat} (h1 : 1 ≤ n) (h2 : n ≤ 10) : turnP (n : Int) = turnL n := by unfold turnP; rw [if_pos ⟨by omega, by omega⟩, Int.toNat_natCast]
theorem turnP_no {n : Int} (h : n < 1 ∨ 10 < n) : turnP n = [] := by unfold turnP; rw [if_neg (by omega)]
theorem mirP_yes {n : Nat} (h1 : 1 ≤ n) (h2 : n ≤ 10) : mirP (n : Int) = mirL n := by unfold mirP; rw [if_pos ⟨by omega, by omega⟩, Int.toNat_natCast]
theorem mirP_no {n : Int} (h : n < 1 ∨ 10 < n) : mirP n = [] := by unfold mirP; rw [if_neg (by omega)]
theorem cyclicGroup_no {n : Int} (h : n < 1 ∨ 10 < n) : cyclicGroup n = ([], false) := groupOf_bad (by omega)
theorem dihedralGroup_no {n : Int} (h : n < 1 ∨ 10 < n) : dihedralGroup n = ([], false) := groupOf_bad (by omega)
theorem symmetricGroup_no {n : Int} (h : n < 1 ∨ 5 < n) : symmetricGroup n = ([], false) := by unfold symmetricGroup; rw [if_neg (by omega)]
theorem symmetricGroup_yes {n : Nat} (h1 : 1 ≤ n) (h2 : n ≤ 5) : symmetricGroup (n : Int) = groupOf n [turnP n, swapL n] := by unfold symmetricGroup; rw [if_pos ⟨by omega, by omega⟩, Int.toNat_natCast]

/-- A row of one turn keeps what Gen says. -/
theorem genRest_gen {n a : Nat} {gens : List (List Int)} (hg : ∀ s ∈ gens, permOk s = true ∧ s.length = n) : ∀ (q : List (List Int)) {q' : List (List Int)}, Gen n q → a < q.length → gens.foldl (genStep a) (some q) = some q' → Gen n q' ∧ q.length ≤ q'.length := by
  induction gens with
  | nil => intro q q' h _ he; simp at he; rw [← he]; exact ⟨h, Nat.le_refl _⟩
  | cons s gens ih =>
    intro q q' h ha he
    rw [List.foldl_cons] at he
    have hgs : ∀ s ∈ gens, permOk s = true ∧ s.length = n := fun x hx => hg x (by simp [hx])
    unfold genStep at he
    by_cases hm : compose (q.getD a []) s ∈ q
    · simp only [if_pos hm] at he
      exact ih hgs q h ha he
    · by_cases h120 : q.length = 120
      · simp only [if_neg hm, if_pos h120] at he
        have := foldl_none a gens
        unfold genStep at this
        rw [this] at he
        cases he
      · simp only [if_neg hm, if_neg h120] at he
        obtain ⟨r1, r2⟩ := ih hgs _ (h.new ha (hg s (by simp)) hm h120) (by rw [List.length_append]; omega) he
        rw [List.length_append] at r2
        exact ⟨r1, by omega⟩
theorem genGo_gen {n : Nat} {gens : List (List Int)} (hg : ∀ s ∈ gens, permOk s = true ∧ s.length = n) : ∀ (f a : Nat) (q : List (List Int)) {q' : List (List Int)}, Gen n q → genGo gens f a q = some q' → Gen n q' := by
  intro f
  induction f with
  | zero => intro a q q' h he; simp [genGo] at he; rw [← he]; exact h
  | succ f ih =>
    intro a q q' h he
    unfold genGo at he
    by_cases ha : a < q.length
    · rw [if_pos ha] at he
      cases hr : genRow gens a q with
      | none => rw [hr] at he; cases he
      | some q2 =>
        rw [hr] at he
        exact ih (a + 1) q2 (genRest_gen hg q h ha hr).1 he
    · rw [if_neg ha] at he
      cases he; exact h
theorem groupOf_rows (n : Int) (gens : List (List Int)) : (groupOf n gens).1.length ≤ 120 ∧ ∀ p ∈ (groupOf n gens).1, p.length ≤ 10 := by
  unfold groupOf
  split
  · rename_i h
    cases hq : genAll n.toNat gens with
    | none => simp
    | some q =>
      have hG : Gen n.toNat q := genGo_gen (gensOk_iff.1 h.2.2) _ _ _ (Gen.start (by omega) (by omega)) hq
      refine ⟨by show (sortL q).length ≤ 120; rw [sortL_len]; exact hG.le, fun p hp => ?_⟩
      rw [(hG.perm p (mem_sortL.1 hp)).2]
      omega
  · simp
theorem groupOf_total (n : Int) (gens : List (List Int)) : totalL (groupOf n gens).1 ≤ 1200 := by
  obtain ⟨h1, h2⟩ := groupOf_rows n gens
  have := totalL_le h2
  omega
theorem symmetricGroup_total (n : Int) : totalL (symmetricGroup n).1 ≤ 1200 := by
  unfold symmetricGroup
  split
  · exact groupOf_total _ _
  · simp [totalL]
end Go.Proofs.Ytfanohebejemmaa
