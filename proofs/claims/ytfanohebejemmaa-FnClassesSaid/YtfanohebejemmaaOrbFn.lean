/-
  Plain Lean: the orbits of a group, as the program's and as the reference's loops find them.
-/
import Derived.Test.YtfanohebejemmaaInv
import Derived.Test.YtfanohebejemmaaCycFn
import Derived.Test.YtfanohebejemmaaSort
namespace Go.Proofs.Ytfanohebejemmaa

/-- Do the permutations carry i to j? -/
def hitB (g : List (List Int)) (i j : Nat) : Bool := decide ((j : Int) ∈ g.map fun p => p.getD i 0)
def orbTo (g : List (List Int)) (i n : Nat) : List Int := ((List.range n).filter (hitB g i)).map fun j : Nat => (j : Int)
def orbit (g : List (List Int)) (i : Nat) : List Int := orbTo g i (deg g)
def orbStep (g s : List (List Int)) (i : Nat) : List (List Int) := if (i : Int) ∈ s.flatten then s else s ++ [orbit g i]
def orbitsTo (g : List (List Int)) (k : Nat) : List (List Int) := (List.range k).foldl (orbStep g) []
def orbitsOf (g : List (List Int)) : List (List Int) := if groupOk g = true then orbitsTo g (deg g) else []
/-- The images of i that have not been met. -/
def imgs (met : List Int) (i : Nat) (g : List (List Int)) : List Int := g.foldl (fun o p => if p.getD i 0 ∈ met ++ o then o else o ++ [p.getD i 0]) []

theorem hitB_nil (i j : Nat) : hitB [] i j = false := by simp [hitB]
theorem hitB_snoc (g : List (List Int)) (p : List Int) (i m j : Nat) (h : p.getD i 0 = (m : Int)) : hitB (g ++ [p]) i j = if j = m then true else hitB g i j := by
  unfold hitB
  by_cases hj : j = m
  · rw [if_pos hj]
    exact decide_eq_true (by rw [List.map_append, List.mem_append]; exact .inr (by rw [List.map_cons, h, hj]; simp))
  · rw [if_neg hj, decide_eq_decide, List.map_append, List.mem_append]
    constructor
    · rintro (h' | h')
      · exact h'
      · rw [List.map_cons, h] at h'
        simp only [List.map_nil, List.mem_singleton] at h'; omega
    · exact .inl
theorem orbTo_zero (g : List (List Int)) (i : Nat) : orbTo g i 0 = [] := rfl
theorem orbTo_yes {g : List (List Int)} {i n : Nat} (h : hitB g i n = true) : orbTo g i (n + 1) = orbTo g i n ++ [(n : Int)] := by
  unfold orbTo; rw [List.range_succ, List.filter_append, List.map_append]; simp [h]
theorem orbTo_no {g : List (List Int)} {i n : Nat} (h : hitB g i n = false) : orbTo g i (n + 1) = orbTo g i n := by
  unfold orbTo; rw [List.range_succ, List.filter_append, List.map_append]; simp [h]
theorem orbTo_len (g : List (List Int)) (i n : Nat) : (orbTo g i n).length ≤ n := by
  unfold orbTo; rw [List.length_map]
  exact Nat.le_trans (List.length_filter_le _ _) (by simp)
theorem mem_orbTo {g : List (List Int)} {i n : Nat} {x : Int} : x ∈ orbTo g i n ↔ 0 ≤ x ∧ x < (n : Int) ∧ ∃ p ∈ g, p.getD i 0 = x := by
  unfold orbTo
  rw [List.mem_map]
  constructor
  · rintro ⟨j, hj, rfl⟩
    obtain ⟨h1, h2⟩ := List.mem_filter.1 hj
    have h3 : (j : Int) ∈ g.map fun p => p.getD i 0 := of_decide_eq_true h2
    obtain ⟨p, hp, he⟩ := List.mem_map.1 h3
    have := List.mem_range.1 h1
    exact ⟨by omega, by omega, p, hp, he⟩
  · rintro ⟨h0, h1, p, hp, he⟩
    refine ⟨x.toNat, List.mem_filter.2 ⟨List.mem_range.2 (by omega), decide_eq_true (List.mem_map.2 ⟨p, hp, ?_⟩)⟩, by omega⟩
    show p.getD i 0 = _
    rw [he]; omega
theorem orbTo_asc (g : List (List Int)) (i n : Nat) : (orbTo g i n).Pairwise (· < ·) := by
  unfold orbTo
  rw [List.pairwise_map]
  exact (List.pairwise_lt_range.sublist List.filter_sublist).imp fun {a b} h => by omega
theorem orbitsTo_zero (g : List (List Int)) : orbitsTo g 0 = [] := rfl
theorem orbitsTo_succ (g : List (List Int)) (k : Nat) : orbitsTo g (k + 1) = orbStep g (orbitsTo g k) k := by unfold orbitsTo; rw [List.range_succ, List.foldl_append]; rfl
theorem orbitsTo_old {g : List (List Int)} {k : Nat} (h : memB (orbitsTo g k).flatten k = true) : orbitsTo g (k + 1) = orbitsTo g k := by
  rw [orbitsTo_succ, orbStep, if_pos (of_decide_eq_true h)]
theorem orbitsTo_new {g : List (List Int)} {k : Nat} (h : memB (orbitsTo g k).flatten k = false) : orbitsTo g (k + 1) = orbitsTo g k ++ [orbit g k] := by
  rw [orbitsTo_succ, orbStep, if_neg (of_decide_eq_false h)]
theorem orbitsTo_len (g : List (List Int)) (k : Nat) : (orbitsTo g k).length ≤ k := by
  induction k with
  | zero => simp [orbitsTo_zero]
  | succ k ih =>
    rw [orbitsTo_succ]; unfold orbStep
    split
    · omega
    · simp; omega
theorem orbitsOf_yes {g : List (List Int)} (h : groupOk g = true) : orbitsOf g = orbitsTo g (deg g) := by unfold orbitsOf; rw [if_pos h]
theorem orbitsOf_no {g : List (List Int)} (h : groupOk g = false) : orbitsOf g = [] := by unfold orbitsOf; rw [if_neg (by rw [h]; simp)]
theorem Grp.img {g : List (List Int)} (h : Grp g) {p : List Int} (hp : p ∈ g) {i : Nat} (hi : i < deg g) : 0 ≤ p.getD i 0 ∧ p.getD i 0 < (deg g : Int) := by
  have h1 := h.len p hp
  have := perm_next (h.perm p hp) (x := i) (by omega)
  rwa [h1] at this
theorem Grp.self_orbit {g : List (List Int)} (h : Grp g) {i : Nat} (hi : i < deg g) : (i : Int) ∈ orbit g i := by
  refine mem_orbTo.2 ⟨by omega, by omega, _, h.id_mem, identity_at hi⟩
/-- The points of the orbits so far are carried among themselves. -/
theorem Grp.orbits_closed {g : List (List Int)} (h : Grp g) : ∀ k, k ≤ deg g → ∀ x ∈ (orbitsTo g k).flatten, 0 ≤ x ∧ x < (deg g : Int) ∧ ∀ p ∈ g, p.getD x.toNat 0 ∈ (orbitsTo g k).flatten := by
  intro k
  induction k with
  | zero => intro _ x hx; simp [orbitsTo_zero] at hx
  | succ k ih =>
    intro hk
    cases hm : memB (orbitsTo g k).flatten k with
    | true => rw [orbitsTo_old hm]; exact ih (by omega)
    | false =>
      rw [orbitsTo_new hm, List.flatten_append]
      intro x hx
      rcases List.mem_append.1 hx with hx | hx
      · obtain ⟨h1, h2, h3⟩ := ih (by omega) x hx
        exact ⟨h1, h2, fun p hp => List.mem_append.2 (.inl (h3 p hp))⟩
      · have hx' : x ∈ orbit g k := by simpa using hx
        obtain ⟨h1, h2, q, hq, he⟩ := mem_orbTo.1 hx'
        refine ⟨h1, h2, fun p hp => List.mem_append.2 (.inr ?_)⟩
        have hc := h.closed q hq p hp
        have hql := h.len q hq
        have hi := h.img hp (i := x.toNat) (by omega)
        have : p.getD x.toNat 0 ∈ orbit g k := mem_orbTo.2 ⟨hi.1, hi.2, _, hc, by rw [comp_at (by omega), he]⟩
        simpa using this
/-- A new orbit meets none of the orbits so far. -/
theorem Grp.orbit_new {g : List (List Int)} (h : Grp g) {k : Nat} (hk : k < deg g) (hm : memB (orbitsTo g k).flatten k = false) : ∀ p ∈ g, p.getD k 0 ∉ (orbitsTo g k).flatten := by
  intro p hp hx
  obtain ⟨r, hr, h1, h2⟩ := h.inv hp
  have h3 := (h.orbits_closed k (by omega) _ hx).2.2 r hr
  rw [h2 k hk] at h3
  exact of_decide_eq_false hm h3
theorem imgs_nil (met : List Int) (i : Nat) : imgs met i [] = [] := rfl
theorem imgs_old {met : List Int} {i m : Nat} {g : List (List Int)} {p : List Int} (hm : p.getD i 0 = (m : Int)) (h : memB (met ++ imgs met i g) m = true) : imgs met i (g ++ [p]) = imgs met i g := by
  have h' : (m : Int) ∈ met ++ imgs met i g := of_decide_eq_true h
  rw [← hm] at h'
  show (g ++ [p]).foldl _ [] = _
  rw [List.foldl_append]
  exact if_pos h'
theorem imgs_new {met : List Int} {i m : Nat} {g : List (List Int)} {p : List Int} (hm : p.getD i 0 = (m : Int)) (h : memB (met ++ imgs met i g) m = false) : imgs met i (g ++ [p]) = imgs met i g ++ [(m : Int)] := by
  have h' : (m : Int) ∉ met ++ imgs met i g := of_decide_eq_false h
  rw [← hm] at h' ⊢
  show (g ++ [p]).foldl _ [] = _
  rw [List.foldl_append]
  exact if_neg h'
theorem imgs_len (met : List Int) (i : Nat) (g : List (List Int)) : (imgs met i g).length ≤ g.length := by
  suffices h : ∀ (g : List (List Int)) (o : List Int), (g.foldl (fun o p => if p.getD i 0 ∈ met ++ o then o else o ++ [p.getD i 0]) o).length ≤ o.length + g.length by
    have := h g []; simpa [imgs] using this
  intro g
  induction g with
  | nil => intro o; simp
  | cons p g ih =>
    intro o
    rw [List.foldl_cons]
    refine Nat.le_trans (ih _) ?_
    split
    · simp only [List.length_cons]; omega
    · simp only [List.length_append, List.length_cons, List.length_nil]; omega
theorem imgs_mem {met : List Int} {i : Nat} : ∀ (g : List (List Int)), (∀ p ∈ g, p.getD i 0 ∉ met) → (imgs met i g).Nodup ∧ ∀ x, x ∈ imgs met i g ↔ ∃ p ∈ g, p.getD i 0 = x := by
  intro g h
  suffices hh : ∀ (g : List (List Int)) (o : List Int) (q : List (List Int)), (∀ p ∈ g, p.getD i 0 ∉ met) → o.Nodup → (∀ x, x ∈ o ↔ ∃ p ∈ q, p.getD i 0 = x) →
      (g.foldl (fun o p => if p.getD i 0 ∈ met ++ o then o else o ++ [p.getD i 0]) o).Nodup ∧ ∀ x, x ∈ g.foldl (fun o p => if p.getD i 0 ∈ met ++ o then o else o ++ [p.getD i 0]) o ↔ ∃ p ∈ q ++ g, p.getD i 0 = x by
    have := hh g [] [] h (by simp) (by simp)
    simpa [imgs] using this
  intro g
  induction g with
  | nil => intro o q _ h1 h2; simpa using ⟨h1, h2⟩
  | cons p g ih =>
    intro o q hg h1 h2
    rw [List.foldl_cons, show q ++ p :: g = (q ++ [p]) ++ g from by simp]
    have hp := hg p (by simp)
    refine ih _ (q ++ [p]) (fun r hr => hg r (by simp [hr])) ?_ fun x => ?_
    · split
      · exact h1
      · rename_i hx
        rw [List.nodup_append]
        exact ⟨h1, by simp, fun a ha b hb e => by simp only [List.mem_singleton] at hb; subst hb; exact hx (List.mem_append.2 (.inr (e ▸ ha)))⟩
    · have e : (∃ r ∈ q ++ [p], r.getD i 0 = x) ↔ (∃ r ∈ q, r.getD i 0 = x) ∨ p.getD i 0 = x := by
        constructor
        · rintro ⟨r, hr, he⟩
          rcases List.mem_append.1 hr with hr | hr
          · exact .inl ⟨r, hr, he⟩
          · simp only [List.mem_singleton] at hr; subst hr; exact .inr he
        · rintro (⟨r, hr, he⟩ | he)
          · exact ⟨r, List.mem_append.2 (.inl hr), he⟩
          · exact ⟨p, by simp, he⟩
      rw [e, ← h2]
      split
      · rename_i hx
        have hx' : p.getD i 0 ∈ o := by
          rcases List.mem_append.1 hx with hx | hx
          · exact absurd hx hp
          · exact hx
        constructor
        · exact .inl
        · rintro (h | h)
          · exact h
          · rw [← h]; exact hx'
      · rw [List.mem_append]
        simp only [List.mem_singleton]
        constructor
        · rintro (h | h)
          · exact .inl h
          · exact .inr h.symm
        · rintro (h | h)
          · exact .inl h
          · exact .inr h.symm
theorem Grp.imgs_sorted {g : List (List Int)} (h : Grp g) {k : Nat} (hk : k < deg g) (hm : memB (orbitsTo g k).flatten k = false) : sortI (imgs (orbitsTo g k).flatten k g) = orbit g k := by
  obtain ⟨h1, h2⟩ := imgs_mem g (h.orbit_new hk hm)
  have tr : ∀ (a b c : Int), decide (a ≤ b) = true → decide (b ≤ c) = true → decide (a ≤ c) = true := by
    intro a b c hab hbc
    simp only [decide_eq_true_eq] at *
    omega
  have tot : ∀ (a b : Int), (decide (a ≤ b) || decide (b ≤ a)) = true := by
    intro a b
    simp only [Bool.or_eq_true, decide_eq_true_eq]
    omega
  have ha := orbTo_asc g k (deg g)
  unfold sortI
  refine List.Perm.eq_of_pairwise (le := fun a b => decide (a ≤ b) = true) (fun a b _ _ h1 h2 => by simp only [decide_eq_true_eq] at h1 h2; omega) (List.pairwise_mergeSort tr tot _) (ha.imp fun {a b} h => by simp only [decide_eq_true_eq]; omega) ((List.mergeSort_perm _ _).trans ?_)
  refine (List.perm_ext_iff_of_nodup h1 (ha.imp fun {a b} h => by omega)).2 fun x => ?_
  rw [h2]
  refine Iff.trans ?_ mem_orbTo.symm
  constructor
  · rintro ⟨p, hp, he⟩
    have := h.img hp hk
    rw [he] at this
    exact ⟨this.1, this.2, p, hp, he⟩
  · rintro ⟨_, _, p, hp, he⟩
    exact ⟨p, hp, he⟩
theorem Grp.imgs_some {g : List (List Int)} (h : Grp g) {k : Nat} (hk : k < deg g) (hm : memB (orbitsTo g k).flatten k = false) : 0 < (imgs (orbitsTo g k).flatten k g).length := by
  rw [← sortI_len, h.imgs_sorted hk hm]
  exact List.length_pos_of_mem (h.self_orbit hk)
theorem Grp.imgs_flat {g : List (List Int)} (h : Grp g) {k : Nat} (hk : k < deg g) (hm : memB (orbitsTo g k).flatten k = false) (j : Nat) : memB ((orbitsTo g k).flatten ++ imgs (orbitsTo g k).flatten k g) j = memB (orbitsTo g (k + 1)).flatten j := by
  rw [orbitsTo_new hm]
  unfold memB
  rw [decide_eq_decide, List.flatten_append, List.mem_append, List.mem_append, ← h.imgs_sorted hk hm]
  unfold sortI
  simp [List.mem_mergeSort]
theorem Grp.orbits_flat {g : List (List Int)} {k : Nat} (hm : memB (orbitsTo g k).flatten k = false) : (orbitsTo g (k + 1)).flatten = (orbitsTo g k).flatten ++ orbTo g k (deg g) := by
  rw [orbitsTo_new hm, List.flatten_append]; simp [orbit]
theorem orbitsOf_len (g : List (List Int)) : (orbitsOf g).length ≤ 10 := by
  unfold orbitsOf
  split
  · rename_i h; have := orbitsTo_len g (deg g); have := (grp_of h).deg_le; omega
  · simp
theorem mem_orbitsTo {g : List (List Int)} {k : Nat} {o : List Int} (h : o ∈ orbitsTo g k) : ∃ i, i < k ∧ o = orbit g i := by
  induction k with
  | zero => simp [orbitsTo_zero] at h
  | succ k ih =>
    rw [orbitsTo_succ] at h; unfold orbStep at h
    split at h
    · obtain ⟨i, hi, e⟩ := ih h; exact ⟨i, by omega, e⟩
    · rcases List.mem_append.1 h with h | h
      · obtain ⟨i, hi, e⟩ := ih h; exact ⟨i, by omega, e⟩
      · exact ⟨k, by omega, List.mem_singleton.1 h⟩
theorem orbitsOf_total (g : List (List Int)) : totalL (orbitsOf g) ≤ 100 := by
  have h0 := orbitsOf_len g
  have : totalL (orbitsOf g) ≤ (orbitsOf g).length * 10 := totalL_le fun o ho => by
    cases hg : groupOk g with
    | false => rw [orbitsOf_no hg] at ho; simp at ho
    | true =>
      rw [orbitsOf_yes hg] at ho
      obtain ⟨i, _, rfl⟩ := mem_orbitsTo ho
      have := orbTo_len g i (deg g)
      have := (grp_of hg).deg_le
      unfold orbit
      omega
  omega
end Go.Proofs.Ytfanohebejemmaa
