/-
  Plain Lean: what a permutation is, and what the program's functions on permutations compute.
-/
import Derived.Test.YtfanohebejemmaaRows
namespace Go.Proofs.Ytfanohebejemmaa

/-- A permutation of a degree from 1 to 10. -/
def permOk (p : List Int) : Bool := decide (1 ≤ p.length ∧ p.length ≤ 10 ∧ (∀ x ∈ p, 0 ≤ x ∧ x < (p.length : Int)) ∧ p.Nodup)

theorem take_succ_getD {p : List Int} {k : Nat} (hk : k < p.length) : p.take (k + 1) = p.take k ++ [p.getD k 0] := by
  rw [List.take_add_one, List.getElem?_eq_getElem hk]; simp [hk]
theorem getD_mem {p : List Int} {k : Nat} (hk : k < p.length) : p.getD k 0 ∈ p := by
  simp [List.getElem?_eq_getElem hk]

theorem permOk_iff {p : List Int} : permOk p = true ↔ 1 ≤ p.length ∧ p.length ≤ 10 ∧ (∀ x ∈ p, 0 ≤ x ∧ x < (p.length : Int)) ∧ p.Nodup := by
  unfold permOk; exact decide_eq_true_iff
theorem permOk_size {p : List Int} (h : p.length < 1 ∨ 10 < p.length) : permOk p = false := by
  unfold permOk; exact decide_eq_false fun ⟨h1, h2, _⟩ => by omega
theorem permOk_range {p : List Int} {k : Nat} (hk : k < p.length) (h : ¬ (0 ≤ p.getD k 0 ∧ p.getD k 0 < (p.length : Int))) : permOk p = false := by
  unfold permOk; exact decide_eq_false fun ⟨_, _, h3, _⟩ => h (h3 _ (getD_mem hk))
theorem permOk_dup {p : List Int} {k : Nat} (hk : k < p.length) (h : p.getD k 0 ∈ p.take k) : permOk p = false := by
  unfold permOk
  refine decide_eq_false fun ⟨_, _, _, h4⟩ => ?_
  have h5 : (p.take (k + 1)).Nodup := h4.sublist (List.take_sublist _ _)
  rw [take_succ_getD hk, List.nodup_append] at h5
  exact h5.2.2 _ h _ (by simp) rfl
/-- What the loop of PermOk knows of the first k elements. -/
def PermTo (p : List Int) (k : Nat) : Prop := (∀ x ∈ p.take k, 0 ≤ x ∧ x < (p.length : Int)) ∧ (p.take k).Nodup
theorem PermTo.zero (p : List Int) : PermTo p 0 := ⟨by simp, by simp⟩
theorem PermTo.succ {p : List Int} {k : Nat} (h : PermTo p k) (hk : k < p.length) (h1 : 0 ≤ p.getD k 0) (h2 : p.getD k 0 < (p.length : Int)) (h3 : p.getD k 0 ∉ p.take k) : PermTo p (k + 1) := by
  unfold PermTo
  rw [take_succ_getD hk]
  refine ⟨fun x hx => ?_, ?_⟩
  · rcases List.mem_append.1 hx with hx | hx
    · exact h.1 x hx
    · simp only [List.mem_singleton] at hx; subst hx; exact ⟨h1, h2⟩
  · rw [List.nodup_append]
    exact ⟨h.2, by simp, fun a ha b hb => by simp only [List.mem_singleton] at hb; subst hb; exact fun e => h3 (e ▸ ha)⟩
theorem PermTo.all {p : List Int} (h : PermTo p p.length) (h1 : 1 ≤ p.length) (h2 : p.length ≤ 10) : permOk p = true := by
  have h' := h
  unfold PermTo at h'
  rw [List.take_length] at h'
  exact permOk_iff.2 ⟨h1, h2, h'.1, h'.2⟩

/-- Has j been met among the first k elements? -/
def seen (p : List Int) (k : Nat) (j : Nat) : Bool := decide ((j : Int) ∈ p.take k)
theorem seen_zero (p : List Int) (j : Nat) : seen p 0 j = false := by simp [seen]
theorem seen_succ {p : List Int} {k : Nat} (hk : k < p.length) (h0 : 0 ≤ p.getD k 0) (j : Nat) : seen p (k + 1) j = if j = (p.getD k 0).toNat then true else seen p k j := by
  unfold seen
  rw [take_succ_getD hk]
  by_cases h : j = (p.getD k 0).toNat
  · rw [if_pos h]; exact decide_eq_true (List.mem_append.2 (.inr (by rw [h, Int.toNat_of_nonneg h0]; simp)))
  · rw [if_neg h, decide_eq_decide, List.mem_append]
    constructor
    · rintro (h' | h')
      · exact h'
      · simp only [List.mem_singleton] at h'; omega
    · exact .inl

/-- A coloring: from 1 to 10 colors, each from 0 to 3. -/
def colOk (l : List Int) : Bool := decide ((∀ x ∈ l, 0 ≤ x ∧ x ≤ 3) ∧ 1 ≤ l.length ∧ l.length ≤ 10)
theorem colOk_iff {l : List Int} : colOk l = true ↔ (∀ x ∈ l, 0 ≤ x ∧ x ≤ 3) ∧ 1 ≤ l.length ∧ l.length ≤ 10 := by unfold colOk; exact decide_eq_true_iff
theorem colOk_range {p : List Int} {k : Nat} (hk : k < p.length) (h : ¬ (0 ≤ p.getD k 0 ∧ p.getD k 0 ≤ 3)) : colOk p = false := by
  unfold colOk; exact decide_eq_false fun ⟨h3, _⟩ => h (h3 _ (getD_mem hk))
theorem colOk_all {l : List Int} (h : ∀ x ∈ l, 0 ≤ x ∧ x ≤ 3) : colOk l = decide (1 ≤ (l.length : Int) ∧ (l.length : Int) ≤ 10) := by
  unfold colOk
  rw [decide_eq_decide]
  constructor
  · rintro ⟨_, h1, h2⟩; omega
  · rintro ⟨h1, h2⟩; exact ⟨h, by omega, by omega⟩
theorem all_take_succ {p : List Int} {P : Int → Prop} {k : Nat} (hk : k < p.length) (h : ∀ x ∈ p.take k, P x) (h1 : P (p.getD k 0)) : ∀ x ∈ p.take (k + 1), P x := by
  rw [take_succ_getD hk]
  intro x hx
  rcases List.mem_append.1 hx with hx | hx
  · exact h x hx
  · simp only [List.mem_singleton] at hx; subst hx; exact h1

/-- 0, 1, .. up to n. -/
def identity (n : Nat) : List Int := (List.range n).map fun i : Nat => (i : Int)
def identityPerm (n : Int) : List Int := if 1 ≤ n ∧ n ≤ 10 then identity n.toNat else []
/-- First p, then q. -/
def compose (p q : List Int) : List Int := p.map fun x => q.getD x.toNat 0
def composePerm (p q : List Int) : List Int × Bool := if permOk p = true ∧ permOk q = true ∧ p.length = q.length then (compose p q, true) else ([], false)
/-- The inverse as far as the first k elements tell it. -/
def invTo (p : List Int) (k : Nat) : List Int := (List.range p.length).map fun j : Nat => if (j : Int) ∈ p.take k then (p.idxOf (j : Int) : Int) else 0
def inverse (p : List Int) : List Int := invTo p p.length
def inversePerm (p : List Int) : List Int × Bool := if permOk p = true then (inverse p, true) else ([], false)

theorem identity_succ (k : Nat) : identity (k + 1) = identity k ++ [(k : Int)] := by simp [identity, List.range_succ]
theorem identity_len (k : Nat) : (identity k).length = k := by simp [identity]
theorem compose_len (p q : List Int) : (compose p q).length = p.length := by simp [compose]
theorem compose_take_succ {p q : List Int} {k : Nat} (hk : k < p.length) : compose (p.take (k + 1)) q = compose (p.take k) q ++ [q.getD (p.getD k 0).toNat 0] := by
  rw [take_succ_getD hk]; simp [compose]
theorem invTo_len (p : List Int) (k : Nat) : (invTo p k).length = p.length := by simp [invTo]
theorem invTo_zero (p : List Int) : invTo p 0 = List.replicate p.length 0 := by
  apply List.ext_getElem
  · simp [invTo]
  · intro i h1 h2; simp [invTo]
theorem invTo_set {p : List Int} {k m : Nat} (hp : p.Nodup) (hk : k < p.length) (hm : p.getD k 0 = (m : Int)) : (invTo p k).set m (k : Int) = invTo p (k + 1) := by
  apply List.ext_getElem
  · simp [invTo]
  · intro i h1 h2
    have hi : i < p.length := by simpa [invTo] using h2
    rw [List.getElem_set]
    simp only [invTo, List.getElem_map, List.getElem_range]
    rw [take_succ_getD hk]
    have hkk : p[k] = (m : Int) := by rw [← hm]; simp [hk]
    by_cases h : m = i
    · subst h
      rw [if_pos rfl, if_pos (List.mem_append.2 (.inr (by rw [hm]; simp)))]
      have := List.Nodup.idxOf_getElem hp k hk
      rw [hkk] at this
      rw [this]
    · rw [if_neg h]
      have : ((i : Int) ∈ p.take k ++ [p.getD k 0]) ↔ ((i : Int) ∈ p.take k) := by
        rw [List.mem_append]
        constructor
        · rintro (h' | h')
          · exact h'
          · simp only [List.mem_singleton] at h'; omega
        · exact .inl
      simp only [this]
theorem permOk_nodup {p : List Int} (h : permOk p = true) : p.Nodup := (permOk_iff.1 h).2.2.2
theorem permOk_mem {p : List Int} (h : permOk p = true) : ∀ x ∈ p, 0 ≤ x ∧ x < (p.length : Int) := (permOk_iff.1 h).2.2.1
theorem permOk_le {p : List Int} (h : permOk p = true) : 1 ≤ p.length ∧ p.length ≤ 10 := ⟨(permOk_iff.1 h).1, (permOk_iff.1 h).2.1⟩
theorem composePerm_yes {p q : List Int} (hp : permOk p = true) (hq : permOk q = true) (hl : p.length = q.length) : composePerm p q = (compose p q, true) := by unfold composePerm; rw [if_pos ⟨hp, hq, hl⟩]
theorem composePerm_no {p q : List Int} (h : permOk p = false ∨ permOk q = false ∨ p.length ≠ q.length) : composePerm p q = ([], false) := by
  unfold composePerm
  rw [if_neg]
  rintro ⟨h1, h2, h3⟩
  rcases h with h | h | h
  · rw [h1] at h; cases h
  · rw [h2] at h; cases h
  · exact h h3
theorem inversePerm_yes {p : List Int} (hp : permOk p = true) : inversePerm p = (inverse p, true) := by unfold inversePerm; rw [if_pos hp]
theorem inversePerm_no {p : List Int} (hp : permOk p = false) : inversePerm p = ([], false) := by unfold inversePerm; rw [if_neg (by rw [hp]; simp)]
theorem identityPerm_len (n : Int) : (identityPerm n).length ≤ 10 := by
  unfold identityPerm; split
  · rw [identity_len]; omega
  · simp
theorem composePerm_len (p q : List Int) : (composePerm p q).1.length ≤ 10 := by
  unfold composePerm; split
  · rename_i h; rw [compose_len]; exact (permOk_le h.1).2
  · simp
theorem inversePerm_len (p : List Int) : (inversePerm p).1.length ≤ 10 := by
  unfold inversePerm; split
  · rename_i h; show (invTo p _).length ≤ 10; rw [invTo_len]; exact (permOk_le h).2
  · simp
end Go.Proofs.Ytfanohebejemmaa
