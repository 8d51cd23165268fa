/-
  Plain Lean: the coloring to which a permutation carries one; powers; cycle types.
-/
import Derived.Test.YtfanohebejemmaaCycFn
namespace Go.Proofs.Ytfanohebejemmaa

def actTo (p l : List Int) (k : Nat) : List Int := (List.range p.length).map fun j : Nat => if (j : Int) ∈ p.take k then l.getD (p.idxOf (j : Int)) 0 else 0
def act (p l : List Int) : List Int := actTo p l p.length
def actOn (p l : List Int) : List Int × Bool := if permOk p = true ∧ colOk l = true ∧ p.length = l.length then (act p l, true) else ([], false)
def isFixed (p l : List Int) : Bool := (actOn p l).2 && decide ((actOn p l).1 = l)

theorem actTo_len (p l : List Int) (k : Nat) : (actTo p l k).length = p.length := by simp [actTo]
theorem actTo_zero (p l : List Int) : actTo p l 0 = List.replicate p.length 0 := by
  apply List.ext_getElem
  · simp [actTo]
  · intro i h1 h2; simp [actTo]
theorem actTo_set {p l : List Int} {k m : Nat} (hp : p.Nodup) (hk : k < p.length) (hm : p.getD k 0 = (m : Int)) : (actTo p l k).set m (l.getD k 0) = actTo p l (k + 1) := by
  apply List.ext_getElem
  · simp [actTo]
  · intro i h1 h2
    have hi : i < p.length := by simpa [actTo] using h2
    rw [List.getElem_set]
    simp only [actTo, List.getElem_map, List.getElem_range]
    rw [take_succ_getD hk]
    have hkk : p[k] = (m : Int) := by rw [← hm]; simp [hk]
    by_cases h : m = i
    · subst h
      rw [if_pos rfl, if_pos (List.mem_append.2 (.inr (by rw [hm]; simp)))]
      have := List.Nodup.idxOf_getElem hp k hk
      rw [hkk] at this
      rw [this]
    · rw [if_neg h]
      have : ((i : Int) ∈ p.take k ++ [p.getD k 0]) ↔ ((i : Int) ∈ p.take k) := by
        rw [List.mem_append]
        constructor
        · rintro (h' | h')
          · exact h'
          · simp only [List.mem_singleton] at h'; omega
        · exact .inl
      simp only [this]
theorem actOn_yes {p l : List Int} (hp : permOk p = true) (hq : colOk l = true) (hl : p.length = l.length) : actOn p l = (act p l, true) := by unfold actOn; rw [if_pos ⟨hp, hq, hl⟩]
theorem actOn_no {p l : List Int} (h : permOk p = false ∨ colOk l = false ∨ p.length ≠ l.length) : actOn p l = ([], false) := by
  unfold actOn
  rw [if_neg]
  rintro ⟨h1, h2, h3⟩
  rcases h with h | h | h
  · rw [h1] at h; cases h
  · rw [h2] at h; cases h
  · exact h h3
theorem actOn_len (p l : List Int) : (actOn p l).1.length ≤ 10 := by
  unfold actOn; split
  · rename_i h; show (actTo p l _).length ≤ 10; rw [actTo_len]; exact (permOk_le h.1).2
  · simp
/-- p composed with itself k times. -/
def powTo (p : List Int) : Nat → List Int
  | 0 => identity p.length
  | k + 1 => compose (powTo p k) p
def powerPerm (p : List Int) (k : Int) : List Int × Bool := if permOk p = true ∧ 0 ≤ k ∧ k ≤ 1000 then (powTo p k.toNat, true) else ([], false)
theorem powTo_len (p : List Int) (k : Nat) : (powTo p k).length = p.length := by
  induction k with
  | zero => exact identity_len _
  | succ k ih => unfold powTo; rw [compose_len, ih]
theorem powTo_mem {p : List Int} (hp : permOk p = true) (k : Nat) : ∀ x ∈ powTo p k, 0 ≤ x ∧ x < (p.length : Int) := by
  induction k with
  | zero =>
    intro x hx
    obtain ⟨i, hi, rfl⟩ := List.mem_map.1 hx
    have := List.mem_range.1 hi
    omega
  | succ k ih =>
    intro x hx
    obtain ⟨y, hy, rfl⟩ := List.mem_map.1 hx
    obtain ⟨h0, h1⟩ := ih y hy
    exact permOk_mem hp _ (getD_mem (by omega))
theorem powerPerm_yes {p : List Int} {k : Int} (hp : permOk p = true) (h0 : 0 ≤ k) (h1 : k ≤ 1000) : powerPerm p k = (powTo p k.toNat, true) := by unfold powerPerm; rw [if_pos ⟨hp, h0, h1⟩]
theorem powerPerm_no {p : List Int} {k : Int} (h : permOk p = false ∨ k < 0 ∨ 1000 < k) : powerPerm p k = ([], false) := by
  unfold powerPerm
  rw [if_neg]
  rintro ⟨h1, h2, h3⟩
  rcases h with h | h | h
  · rw [h1] at h; cases h
  · omega
  · omega
theorem powerPerm_len (p : List Int) (k : Int) : (powerPerm p k).1.length ≤ 10 := by
  unfold powerPerm; split
  · rename_i h; show (powTo p _).length ≤ 10; rw [powTo_len]; exact (permOk_le h.1).2
  · simp

/-- How many of the lists have each length from 1 to n. -/
def typeTo (n : Nat) (cs : List (List Int)) : List Int := (List.range n).map fun j => ((cs.filter fun c => c.length == j + 1).length : Int)
def cycleType (p : List Int) : List Int := if permOk p = true then typeTo p.length (cyclesOf p) else []
theorem typeTo_len (n : Nat) (cs : List (List Int)) : (typeTo n cs).length = n := by simp [typeTo]
theorem typeTo_nil (n : Nat) : typeTo n [] = List.replicate n 0 := by
  apply List.ext_getElem
  · simp [typeTo]
  · intro i h1 h2; simp [typeTo]
theorem typeTo_get {n : Nat} {cs : List (List Int)} {j : Nat} (hj : j < n) : (typeTo n cs).getD j 0 = ((cs.filter fun c => c.length == j + 1).length : Int) := by simp [typeTo, hj]
theorem typeTo_set {n : Nat} {cs : List (List Int)} {c : List Int} {j : Nat} (hc : c.length = j + 1) (hj : j < n) : (typeTo n cs).set j ((typeTo n cs).getD j 0 + 1) = typeTo n (cs ++ [c]) := by
  have hg := typeTo_get (cs := cs) hj
  generalize (typeTo n cs).getD j 0 = y at hg
  subst hg
  apply List.ext_getElem
  · simp [typeTo]
  · intro i h1 h2
    rw [List.getElem_set]
    simp only [typeTo, List.getElem_map, List.getElem_range, List.filter_append, List.length_append]
    by_cases h : j = i
    · subst h; simp [hc]
    · rw [if_neg h]
      have : (c.length == i + 1) = false := by rw [hc]; simp; omega
      simp [this]
theorem cycFrom_ne {p met : List Int} {x : Int} (hm : Met p.length met) (h : x ∉ met) : cycFrom p met x ≠ [] := by rw [cycFrom_go hm h]; simp
theorem cyclesTo_ne {p : List Int} (hp : permOk p = true) : ∀ k, k ≤ p.length → ∀ c ∈ cyclesTo p k, c ≠ [] ∧ c.length ≤ p.length := by
  intro k
  induction k with
  | zero => intro _ c hc; simp [cyclesTo_zero] at hc
  | succ k ih =>
    intro hk c hc
    have hm := cyclesTo_met hp (k + 1) hk
    have hsub : c.length ≤ (cyclesTo p (k + 1)).flatten.length := (List.sublist_flatten_of_mem hc).length_le
    refine ⟨?_, by have := hm.len; omega⟩
    rw [cyclesTo_succ] at hc
    unfold cycStep at hc
    split at hc
    · exact (ih (by omega) c hc).1
    · rename_i hk'
      rcases List.mem_append.1 hc with hc | hc
      · exact (ih (by omega) c hc).1
      · simp only [List.mem_singleton] at hc
        rw [hc]
        exact cycFrom_ne (cyclesTo_met hp k (by omega)) hk'
theorem cyclesOf_ne {p : List Int} (hp : permOk p = true) : ∀ c ∈ cyclesOf p, 1 ≤ c.length ∧ c.length ≤ p.length := by
  intro c hc
  rw [cyclesOf_yes hp] at hc
  obtain ⟨h1, h2⟩ := cyclesTo_ne hp p.length (Nat.le_refl _) c hc
  exact ⟨List.length_pos_iff.2 h1, h2⟩
theorem cycleType_yes {p : List Int} (hp : permOk p = true) : cycleType p = typeTo p.length (cyclesOf p) := by unfold cycleType; rw [if_pos hp]
theorem cycleType_no {p : List Int} (hp : permOk p = false) : cycleType p = [] := by unfold cycleType; rw [if_neg (by rw [hp]; simp)]
theorem cycleType_len (p : List Int) : (cycleType p).length ≤ 10 := by
  unfold cycleType; split
  · rename_i h; rw [typeTo_len]; exact (permOk_le h).2
  · simp
theorem typeTo_le (n : Nat) (cs : List (List Int)) (j : Nat) : 0 ≤ (typeTo n cs).getD j 0 ∧ (typeTo n cs).getD j 0 ≤ cs.length := by
  by_cases h : j < n
  · rw [typeTo_get h]
    have := List.length_filter_le (fun c : List Int => c.length == j + 1) cs
    omega
  · simp [typeTo, h]
end Go.Proofs.Ytfanohebejemmaa
