/-
  Plain Lean: the coloring to which a permutation carries one; powers; cycle types.
-/
import Derived.Test.YtmgighhdkgcigaaCycFn
namespace Go.Proofs.Ytmgighhdkgcigaa

def actTo (p l : List Int) (k : Nat) : List Int := (List.range p.length).map fun j : Nat => if (j : Int) ∈ p.take k then l.getD (p.idxOf (j : Int)) 0 else 0
def act (p l : List Int) : List Int := actTo p l p.length
def actOn (p l : List Int) : List Int × Bool := if permOk p = true ∧ colOk l = true ∧ p.length = l.length then (act p l, true) else ([], false)
def isFixed (p l : List Int) : Bool := (actOn p l).2 && decide ((actOn p l).1 = l)

theorem actTo_len (p l : List Int) (k : Nat) : (actTo p l k).length = p.length := by simp [actTo]
theorem actTo_zero (p l : List Int) : actTo p l 0 = List.replicate p.length 0 := by
  apply List.ext_getElem
  · simp [actTo]
  · intro i h1 h2; simp [actTo]
theorem actTo_set {p l : List Int} {k m : Nat} (hp : p.Nodup) (hk : k < p.length) (hm : p.getD k 0 = (m : Int)) : (actTo p l k).set m (l.getD k 0) = actTo p l (k + 1) := by
  apply List.ext_getElem
  · simp [actTo]
  · intro i h1 h2
    have hi : i < p.length := by simpa [actTo] using h2
    rw [List.getElem_set]
    simp only [actTo, List.getElem_map, List.getElem_range]
    rw [take_succ_getD hk]
    have hkk : p[k] = (m : Int) := by rw [← hm]; simp [hk]
    by_cases h : m = i
    · subst h
      rw [if_pos rfl, if_pos (List.mem_append.2 (.inr (by rw [hm]; simp)))]
      have := List.Nodup.idxOf_getElem hp k hk
      rw [hkk] at this
      rw [this]
    · rw [if_neg h]
      have : ((i : Int) ∈ p.take k ++ [p.getD k 0]) ↔ ((i : Int) ∈ p.take k) := by
        rw [List.mem_append]
        constructor
        · rintro (h' | h')
          · exact h'
          · simp only [List.mem_singleton] at h'; omega
        · exact .inl
      simp only [this]
theorem actOn_yes {p l : List Int} (hp : permOk p = true) (hq : colOk l = true) (hl : p.length = l.length) : actOn p l = (act p l, true) := by unfold actOn; rw [if_pos ⟨hp, hq, hl⟩]
theorem actOn_no {p l : List Int} (h : permOk p = false ∨ colOk l = false ∨ p.length ≠ l.length) : actOn p l = ([], false) := by
  unfold actOn
  rw [if_neg]
  rintro ⟨h1, h2, h3⟩
  rcases h with h | h | h
  · rw [h1] at h; cases h
  · rw [h2] at h; cases h
  · exact h h3
theorem actOn_len (p l : List Int) : (actOn p l).1.length ≤ 10 := by
  unfold actOn; split
  · rename_i h; show (actTo p l _).length ≤ 10; rw [actTo_len]; exact (permOk_le h.1).2
  · simp
end Go.Proofs.Ytmgighhdkgcigaa
