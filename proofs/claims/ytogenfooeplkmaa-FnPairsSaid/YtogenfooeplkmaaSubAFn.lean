/-
  Plain Lean: a permutation's action on subsets.
-/
import Derived.Test.YtogenfooeplkmaaSubFn
import Derived.Test.YtogenfooeplkmaaSort
import Derived.Test.YtogenfooeplkmaaCycFn
import Derived.Test.YtogenfooeplkmaaInv
namespace Go.Proofs.Ytogenfooeplkmaa

def imgL (p l : List Int) : List Int := sortI (l.map fun a => p.getD a.toNat 0)
def movedL (ls : List (List Int)) (p : List Int) : List Int := ls.map fun l => findIdx ls (imgL p l)
def subsetAction (p : List Int) (k : Int) : List Int × Bool := if permOk p = true ∧ p.length ≤ 5 ∧ 0 ≤ k ∧ k ≤ (p.length : Int) then (movedL (subs k.toNat 0 p.length) p, true) else ([], false)
def pairAction (p : List Int) : List Int × Bool := if 2 ≤ p.length then subsetAction p 2 else ([], false)
def pairGroup (g : List (List Int)) : List (List Int) × Bool := if groupOk g = true ∧ 3 ≤ deg g ∧ deg g ≤ 5 then (sortL (g.map fun p => (pairAction p).1), true) else ([], false)

theorem mem_subs : ∀ (k f n : Nat) (l : List Int), l ∈ subs k f n ↔ l.length = k ∧ l.Pairwise (· < ·) ∧ ∀ x ∈ l, (f : Int) ≤ x ∧ x < (n : Int) := by
  intro k
  induction k with
  | zero =>
    intro f n l
    simp only [subs, List.mem_singleton]
    constructor
    · rintro rfl; simp
    · rintro ⟨h, _⟩; exact List.eq_nil_of_length_eq_zero h
  | succ k ih =>
    intro f n l
    simp only [subs, List.mem_flatMap, List.mem_map, List.mem_range]
    constructor
    · rintro ⟨d, hd, l', hl', rfl⟩
      obtain ⟨h1, h2, h3⟩ := (ih _ _ _).1 hl'
      refine ⟨by simp [h1], List.pairwise_cons.2 ⟨fun x hx => by have := h3 x hx; omega, h2⟩, fun x hx => ?_⟩
      rcases List.mem_cons.1 hx with rfl | hx
      · omega
      · have := h3 x hx; omega
    · rintro ⟨h1, h2, h3⟩
      cases l with
      | nil => simp at h1
      | cons a l' =>
        obtain ⟨h4, h5⟩ := List.pairwise_cons.1 h2
        have ha := h3 a (by simp)
        refine ⟨a.toNat - f, by omega, l', (ih _ _ _).2 ⟨by simpa using h1, h5, fun x hx => ?_⟩, ?_⟩
        · have := h4 x hx; have := h3 x (by simp [hx]); omega
        · congr 1; omega
set_option maxRecDepth 100000 in
set_option maxHeartbeats 2000000 in
theorem subs_lt : ∀ n, n < 6 → ∀ k, k < n + 1 → decide ((subs k 0 n).Pairwise fun a b => ltL a b = true) = true := by decide
theorem subs_asc {n k : Nat} (hn : n ≤ 5) (hk : k ≤ n) : Asc (subs k 0 n) := by
  have h := of_decide_eq_true (subs_lt n (by omega) k (by omega))
  rw [List.pairwise_iff_getElem] at h
  intro i j hij hj
  have := h i j (by omega) hj hij
  simpa [List.getElem?_eq_getElem hj, List.getElem?_eq_getElem (show i < (subs k 0 n).length by omega)] using this
theorem sortI_perm (xs : List Int) : (sortI xs).Perm xs := List.mergeSort_perm _ _
theorem sortI_sorted (xs : List Int) : (sortI xs).Pairwise (fun a b => decide (a ≤ b) = true) := by
  refine List.pairwise_mergeSort ?_ ?_ xs
  · intro a b c hab hbc
    simp only [decide_eq_true_eq] at *
    omega
  · intro a b
    simp only [Bool.or_eq_true, decide_eq_true_eq]
    omega
theorem sortI_lt {xs : List Int} (h : xs.Nodup) : (sortI xs).Pairwise (· < ·) := by
  have h1 := sortI_sorted xs
  have h2 : (sortI xs).Nodup := (sortI_perm xs).nodup_iff.2 h
  rw [List.nodup_iff_pairwise_ne] at h2
  exact (h1.and h2).imp fun {a b} ⟨x, y⟩ => by
    have := of_decide_eq_true x
    omega
theorem img_nodup {p l : List Int} (hp : permOk p = true) (hl : l.Pairwise (· < ·)) (hr : ∀ x ∈ l, 0 ≤ x ∧ x < (p.length : Int)) : (l.map fun a => p.getD a.toNat 0).Nodup := by
  rw [List.nodup_iff_pairwise_ne, List.pairwise_map]
  refine hl.imp_of_mem fun {a b} ha hb hab he => ?_
  have h1 := hr a ha
  have h2 := hr b hb
  have := perm_inj hp (by omega) (by omega) he
  omega
theorem imgL_mem {p l : List Int} {k : Nat} (hp : permOk p = true) (hl : l ∈ subs k 0 p.length) : imgL p l ∈ subs k 0 p.length := by
  obtain ⟨h1, h2, h3⟩ := (mem_subs _ _ _ _).1 hl
  have h3' : ∀ x ∈ l, 0 ≤ x ∧ x < (p.length : Int) := fun x hx => by have := h3 x hx; omega
  refine (mem_subs _ _ _ _).2 ⟨by unfold imgL; rw [sortI_len, List.length_map]; exact h1, sortI_lt (img_nodup hp h2 h3'), fun x hx => ?_⟩
  have hx' := (sortI_perm _).mem_iff.1 hx
  obtain ⟨a, ha, rfl⟩ := List.mem_map.1 hx'
  have := h3' a ha
  have := perm_next hp (x := a.toNat) (by omega)
  omega
/-- The image as the reference finds it: the points that are hit, ascending. -/
def inB (p l : List Int) (j : Nat) : Bool := decide ((j : Int) ∈ l.map fun a => p.getD a.toNat 0)
def imgTo (p l : List Int) (n : Nat) : List Int := ((List.range n).filter (inB p l)).map fun j : Nat => (j : Int)
theorem inB_nil (p : List Int) (j : Nat) : inB p [] j = false := by simp [inB]
theorem inB_snoc {p l : List Int} {a : Int} {m : Nat} (j : Nat) (h : p.getD a.toNat 0 = (m : Int)) : inB p (l ++ [a]) j = if j = m then true else inB p l j := by
  unfold inB
  by_cases hj : j = m
  · rw [if_pos hj]
    exact decide_eq_true (by rw [List.map_append, List.mem_append]; exact .inr (by rw [List.map_cons, h, hj]; simp))
  · rw [if_neg hj, decide_eq_decide, List.map_append, List.mem_append]
    constructor
    · rintro (h' | h')
      · exact h'
      · rw [List.map_cons, h] at h'
        simp only [List.map_nil, List.mem_singleton] at h'; omega
    · exact .inl
theorem imgTo_zero (p l : List Int) : imgTo p l 0 = [] := rfl
theorem imgTo_yes {p l : List Int} {n : Nat} (h : inB p l n = true) : imgTo p l (n + 1) = imgTo p l n ++ [(n : Int)] := by
  unfold imgTo; rw [List.range_succ, List.filter_append, List.map_append]; simp [h]
theorem imgTo_no {p l : List Int} {n : Nat} (h : inB p l n = false) : imgTo p l (n + 1) = imgTo p l n := by
  unfold imgTo; rw [List.range_succ, List.filter_append, List.map_append]; simp [h]
theorem imgTo_len (p l : List Int) (n : Nat) : (imgTo p l n).length ≤ n := by
  unfold imgTo; rw [List.length_map]
  exact Nat.le_trans (List.length_filter_le _ _) (by simp)
theorem imgTo_end {p l : List Int} (hp : permOk p = true) (hl : l.Pairwise (· < ·)) (hr : ∀ x ∈ l, 0 ≤ x ∧ x < (p.length : Int)) : imgTo p l p.length = imgL p l := by
  have hlt : (imgTo p l p.length).Pairwise (· < ·) := by
    unfold imgTo
    rw [List.pairwise_map]
    exact (List.pairwise_lt_range.sublist List.filter_sublist).imp fun {a b} h => by omega
  have hn : (imgTo p l p.length).Nodup := List.nodup_iff_pairwise_ne.2 (hlt.imp fun {a b} h => by omega)
  unfold imgL
  refine List.Perm.eq_of_pairwise (le := fun a b => decide (a ≤ b) = true) (fun a b _ _ h1 h2 => by simp only [decide_eq_true_eq] at h1 h2; omega) (hlt.imp fun {a b} h => by simp only [decide_eq_true_eq]; omega) (sortI_sorted _) (List.Perm.trans ?_ (sortI_perm _).symm)
  refine (List.perm_ext_iff_of_nodup hn (img_nodup hp hl hr)).2 fun x => ?_
  unfold imgTo
  rw [List.mem_map]
  constructor
  · rintro ⟨j, hj, rfl⟩
    exact of_decide_eq_true (List.mem_filter.1 hj).2
  · intro hx
    obtain ⟨a, ha, he⟩ := List.mem_map.1 hx
    have := hr a ha
    have h2 := perm_next hp (x := a.toNat) (by omega)
    refine ⟨x.toNat, List.mem_filter.2 ⟨List.mem_range.2 (by omega), decide_eq_true ?_⟩, by omega⟩
    rw [show ((x.toNat : Nat) : Int) = x from by omega]; exact hx
theorem subsetAction_yes {p : List Int} {k : Nat} (hp : permOk p = true) (hn : p.length ≤ 5) (hk : k ≤ p.length) : subsetAction p (k : Int) = (movedL (subs k 0 p.length) p, true) := by
  unfold subsetAction; rw [if_pos ⟨hp, hn, by omega, by omega⟩, Int.toNat_natCast]
theorem subsetAction_no {p : List Int} {k : Int} (h : permOk p = false ∨ 5 < p.length ∨ k < 0 ∨ (p.length : Int) < k) : subsetAction p k = ([], false) := by
  unfold subsetAction
  rw [if_neg]
  rintro ⟨h1, h2, h3, h4⟩
  rcases h with h | h | h | h
  · rw [h1] at h; cases h
  · omega
  · omega
  · omega
theorem pairAction_yes {p : List Int} (hp : permOk p = true) (h2 : 2 ≤ p.length) (hn : p.length ≤ 5) : pairAction p = (movedL (subs 2 0 p.length) p, true) := by
  unfold pairAction; rw [if_pos h2, show (2 : Int) = ((2 : Nat) : Int) from rfl, subsetAction_yes hp hn h2]
theorem pairAction_no {p : List Int} (h : permOk p = false ∨ p.length < 2 ∨ 5 < p.length) : pairAction p = ([], false) := by
  unfold pairAction
  split
  · exact subsetAction_no (by rcases h with h | h | h; exact .inl h; omega; exact .inr (.inl h))
  · rfl
theorem movedL_len (ls : List (List Int)) (p : List Int) : (movedL ls p).length = ls.length := by simp [movedL]
theorem movedL_take {ls : List (List Int)} {p : List Int} {j : Nat} (h : j < ls.length) : (movedL ls p).take (j + 1) = (movedL ls p).take j ++ [findIdx ls (imgL p (ls.getD j []))] := by
  have h' : j < (movedL ls p).length := by rw [movedL_len]; exact h
  rw [List.take_add_one, List.getElem?_eq_getElem h']
  simp [movedL, h]
theorem subsetAction_len (p : List Int) (k : Int) : (subsetAction p k).1.length ≤ 10 := by
  unfold subsetAction
  split
  · rename_i h
    show (movedL _ _).length ≤ 10
    rw [movedL_len]
    exact (subs_len h.2.1 (by omega)).2
  · simp
theorem pairAction_len (p : List Int) : (pairAction p).1.length ≤ 10 := by
  unfold pairAction
  split
  · exact subsetAction_len p 2
  · simp
/-- The places up to j at which y stands. -/
def matchTo (ls : List (List Int)) (y : List Int) (j : Nat) : List Int := if y ∈ ls.take j then [findIdx ls y] else []
theorem matchTo_zero (ls : List (List Int)) (y : List Int) : matchTo ls y 0 = [] := by simp [matchTo]
theorem matchTo_no {ls : List (List Int)} {y : List Int} {j : Nat} (hj : j < ls.length) (h : y ≠ ls.getD j []) : matchTo ls y (j + 1) = matchTo ls y j := by
  unfold matchTo
  have : (y ∈ ls.take (j + 1)) ↔ y ∈ ls.take j := by
    rw [takeG_succ hj, List.mem_append, List.mem_singleton]
    exact ⟨fun h' => h'.elim id fun e => absurd e h, .inl⟩
  simp only [this]
theorem matchTo_yes {ls : List (List Int)} {y : List Int} {j : Nat} (ha : Asc ls) (hj : j < ls.length) (h : y = ls.getD j []) : matchTo ls y j = [] ∧ matchTo ls y (j + 1) = [(j : Int)] := by
  constructor
  · unfold matchTo
    rw [if_neg]
    intro hm
    obtain ⟨i, hi, he⟩ := List.mem_iff_getElem.1 hm
    rw [List.length_take] at hi
    have hi2 : i < j := by omega
    have := ha i j hi2 hj
    rw [← h] at this
    have e : ls.getD i [] = y := by
      rw [← he]
      simp [show i < ls.length by omega]
    rw [e, ltL_irrefl] at this
    cases this
  · unfold matchTo
    rw [if_pos (by rw [takeG_succ hj, ← h]; simp), h, findIdx_at ha hj]
theorem matchTo_end {ls : List (List Int)} {y : List Int} (h : y ∈ ls) {j : Nat} (hj : ls.length ≤ j) : matchTo ls y j = [findIdx ls y] := by
  unfold matchTo; rw [List.take_of_length_le hj, if_pos h]
theorem matchTo_len (ls : List (List Int)) (y : List Int) (j : Nat) : (matchTo ls y j).length ≤ 1 := by
  unfold matchTo; split <;> simp
end Go.Proofs.Ytogenfooeplkmaa
