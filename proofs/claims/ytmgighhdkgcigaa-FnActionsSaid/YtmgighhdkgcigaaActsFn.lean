/-
  Plain Lean: carrying by two permutations is carrying by both; a coloring is kept exactly if each point has the color of its image.
-/
import Derived.Test.YtmgighhdkgcigaaActFn
import Derived.Test.YtmgighhdkgcigaaGenFn
namespace Go.Proofs.Ytmgighhdkgcigaa

theorem act_len (p l : List Int) : (act p l).length = p.length := actTo_len p l _
theorem act_at {p l : List Int} (hp : permOk p = true) {i : Nat} (hi : i < p.length) : (act p l).getD (p.getD i 0).toNat 0 = l.getD i 0 := by
  have hm := permOk_mem hp _ (getD_mem hi)
  unfold act actTo
  have hlt : (p.getD i 0).toNat < p.length := by omega
  simp only [List.take_length]
  have e : ((p.getD i 0).toNat : Int) = p.getD i 0 := Int.toNat_of_nonneg hm.1
  have hidx : p.idxOf (p.getD i 0) = i := by
    have h := List.Nodup.idxOf_getElem (permOk_nodup hp) i hi
    rwa [show p[i] = p.getD i 0 from by simp [List.getElem?_eq_getElem hi]] at h
  rw [List.getD_eq_getElem?_getD, List.getElem?_map, List.getElem?_range hlt]
  simp only [Option.map_some, Option.getD_some]
  rw [e, if_pos (getD_mem hi), hidx]
/-- Two lists that agree at each image agree. -/
theorem ext_image {p a b : List Int} (hp : permOk p = true) (ha : a.length = p.length) (hb : b.length = p.length) (h : ∀ i, i < p.length → a.getD (p.getD i 0).toNat 0 = b.getD (p.getD i 0).toNat 0) : a = b := by
  refine list_ext0 (ha.trans hb.symm) fun x hx => ?_
  obtain ⟨i, hi, e⟩ := perm_onto hp (x := x) (by omega)
  have := h i hi
  rwa [e, Int.toNat_natCast] at this
theorem act_mem {p l : List Int} (hp : permOk p = true) (hl : l.length = p.length) : ∀ x ∈ act p l, x ∈ l := by
  intro x hx
  obtain ⟨j, hj, rfl⟩ := List.getElem_of_mem hx
  have hj' : j < p.length := by rwa [act_len] at hj
  obtain ⟨i, hi, e⟩ := perm_onto hp hj'
  have := act_at (l := l) hp hi
  rw [e, Int.toNat_natCast] at this
  rw [show (act p l)[j] = (act p l).getD j 0 from by simp [List.getElem?_eq_getElem hj], this]
  exact getD_mem (by omega)
theorem act_comp {p q l : List Int} (hp : permOk p = true) (hq : permOk q = true) (hpq : p.length = q.length) : act q (act p l) = act (compose p q) l := by
  have hc := compose_ok hp hq hpq
  refine ext_image hc (by rw [act_len, compose_len]; exact hpq.symm) (by rw [act_len]) fun i hi => ?_
  have hi' : i < p.length := by rwa [compose_len] at hi
  have hm := permOk_mem hp _ (getD_mem hi')
  rw [act_at hc hi, comp_at hi', act_at hq (by omega), act_at hp hi']
theorem colOk_of_two {l : List Int} {n : Nat} (hl : l.length = n) (h1 : 1 ≤ n) (h2 : n ≤ 10) (h : ∀ x ∈ l, 0 ≤ x ∧ x < (2 : Nat)) : colOk l = true :=
  colOk_iff.2 ⟨fun x hx => by have := h x hx; omega, by omega, by omega⟩
/-- Do the first k points have the colors of their images? -/
def keptTo (p l : List Int) (k : Nat) : Bool := (List.range k).all fun j => l.getD j 0 == l.getD (p.getD j 0).toNat 0
theorem keptTo_zero (p l : List Int) : keptTo p l 0 = true := rfl
theorem keptTo_succ (p l : List Int) (k : Nat) : keptTo p l (k + 1) = (keptTo p l k && (l.getD k 0 == l.getD (p.getD k 0).toNat 0)) := by
  unfold keptTo
  rw [List.range_succ, List.all_append]
  simp
theorem keptTo_end {p l : List Int} (hp : permOk p = true) (hl : l.length = p.length) (hc : colOk l = true) : isFixed p l = keptTo p l p.length := by
  unfold isFixed
  rw [actOn_yes hp hc hl.symm, Bool.true_and]
  unfold keptTo
  rw [Bool.eq_iff_iff, decide_eq_true_iff, List.all_eq_true]
  constructor
  · intro h j hj
    have hj' := List.mem_range.1 hj
    have := act_at (l := l) hp hj'
    rw [show act p l = l from h] at this
    rw [this]
    simp
  · intro h
    refine ext_image hp (act_len p l) hl fun i hi => ?_
    have := h i (List.mem_range.2 hi)
    rw [act_at hp hi]
    exact beq_iff_eq.1 this
end Go.Proofs.Ytmgighhdkgcigaa
