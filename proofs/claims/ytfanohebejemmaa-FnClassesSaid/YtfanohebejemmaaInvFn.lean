/-
  Plain Lean: a permutation composed with its inverse is the identity.
-/
import Derived.Test.YtfanohebejemmaaGenFn
namespace Go.Proofs.Ytfanohebejemmaa

theorem inv_len (p : List Int) : (inverse p).length = p.length := invTo_len p _
theorem inv_at {p : List Int} (hp : permOk p = true) {i : Nat} (hi : i < p.length) : (inverse p).getD (p.getD i 0).toNat 0 = (i : Int) := by
  have hm := permOk_mem hp _ (getD_mem hi)
  have e : ((p.getD i 0).toNat : Int) = p.getD i 0 := Int.toNat_of_nonneg hm.1
  have hlt : (p.getD i 0).toNat < p.length := by omega
  have hidx := List.Nodup.idxOf_getElem (permOk_nodup hp) i hi
  rw [show p[i] = p.getD i 0 from by simp [List.getElem?_eq_getElem hi]] at hidx
  unfold inverse invTo
  simp only [List.take_length]
  rw [List.getD_eq_getElem?_getD, List.getElem?_map, List.getElem?_range hlt]
  simp only [Option.map_some, Option.getD_some]
  rw [e, if_pos (getD_mem hi), hidx]
theorem comp_inv {p : List Int} (hp : permOk p = true) : compose p (inverse p) = identity p.length := by
  refine list_ext0 (by rw [compose_len, identity_len]) fun i hi => ?_
  rw [compose_len] at hi
  rw [comp_at hi, inv_at hp hi, identity_at hi]
theorem inv_ok {p : List Int} (hp : permOk p = true) : permOk (inverse p) = true := by
  have hl := permOk_le hp
  have hval : ∀ j, j < p.length → ∃ i, i < p.length ∧ p.getD i 0 = (j : Int) ∧ (inverse p).getD j 0 = (i : Int) := fun j hj => by
    obtain ⟨i, hi, e⟩ := perm_onto hp hj
    refine ⟨i, hi, e, ?_⟩
    have := inv_at hp hi
    rwa [e, Int.toNat_natCast] at this
  refine permOk_intro (by rw [inv_len]; exact hl.1) (by rw [inv_len]; exact hl.2) (fun x hx => ?_) (nodup_of_inj fun i j hi hj h => ?_)
  · obtain ⟨j, hj, rfl⟩ := List.getElem_of_mem hx
    rw [inv_len] at hj ⊢
    obtain ⟨i, hi, -, h⟩ := hval j hj
    rw [show (inverse p)[j] = (inverse p).getD j 0 from by simp [List.getElem?_eq_getElem (show j < (inverse p).length by rw [inv_len]; exact hj)], h]
    omega
  · rw [inv_len] at hi hj
    obtain ⟨a, ha, e1, h1⟩ := hval i hi
    obtain ⟨b, hb, e2, h2⟩ := hval j hj
    rw [h1, h2] at h
    obtain rfl : a = b := by omega
    rw [e1] at e2
    omega
theorem comp_id {p : List Int} (hp : permOk p = true) : compose p (identity p.length) = p := by
  refine list_ext0 (compose_len _ _) fun i hi => ?_
  rw [compose_len] at hi
  have := permOk_mem hp _ (getD_mem hi)
  rw [comp_at hi, identity_at (by omega)]
  omega
theorem id_comp (p : List Int) : compose (identity p.length) p = p := by
  refine list_ext0 (by rw [compose_len, identity_len]) fun i hi => ?_
  rw [compose_len, identity_len] at hi
  rw [comp_at (by rw [identity_len]; exact hi), identity_at hi, Int.toNat_natCast]
theorem comp_assoc {p q r : List Int} (hp : ∀ x ∈ p, 0 ≤ x ∧ x < (q.length : Int)) : compose (compose p q) r = compose p (compose q r) := by
  refine list_ext0 (by simp only [compose_len]) fun i hi => ?_
  simp only [compose_len] at hi
  have := hp _ (getD_mem hi)
  rw [comp_at (by rw [compose_len]; exact hi), comp_at hi, comp_at hi, comp_at (by omega)]
end Go.Proofs.Ytfanohebejemmaa
