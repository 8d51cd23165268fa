/-
  Plain Lean: the group that permutations generate, as both loops find it.
-/
import Derived.Test.YtfanohebejemmaaInv
namespace Go.Proofs.Ytfanohebejemmaa

theorem permOk_intro {p : List Int} (h1 : 1 ≤ p.length) (h2 : p.length ≤ 10) (h3 : ∀ x ∈ p, 0 ≤ x ∧ x < (p.length : Int)) (h4 : p.Nodup) : permOk p = true := permOk_iff.2 ⟨h1, h2, h3, h4⟩
theorem identity_ok {n : Nat} (h1 : 1 ≤ n) (h2 : n ≤ 10) : permOk (identity n) = true := by
  refine permOk_intro (by rw [identity_len]; exact h1) (by rw [identity_len]; exact h2) (fun x hx => ?_) ?_
  · rw [identity_len]
    obtain ⟨j, hj, rfl⟩ := List.mem_map.1 hx
    have := List.mem_range.1 hj
    omega
  · unfold identity
    rw [List.nodup_iff_pairwise_ne, List.pairwise_map]
    exact List.pairwise_lt_range.imp fun {a b} h => by omega
theorem nodup_of_inj {p : List Int} (h : ∀ i j, i < p.length → j < p.length → p.getD i 0 = p.getD j 0 → i = j) : p.Nodup := by
  rw [List.nodup_iff_pairwise_ne, List.pairwise_iff_getElem]
  intro i j hi hj hij he
  have := h i j hi hj (by simp [hi, hj, he])
  omega
theorem compose_ok {p q : List Int} (hp : permOk p = true) (hq : permOk q = true) (hl : p.length = q.length) : permOk (compose p q) = true := by
  have h10 := permOk_le hp
  refine permOk_intro (by rw [compose_len]; omega) (by rw [compose_len]; omega) (fun x hx => ?_) (nodup_of_inj fun i j hi hj he => ?_)
  · rw [compose_len]
    unfold compose at hx
    obtain ⟨y, hy, rfl⟩ := List.mem_map.1 hx
    have h1 := permOk_mem hp y hy
    have := perm_next hq (x := y.toNat) (by omega)
    omega
  · rw [compose_len] at hi hj
    rw [comp_at hi, comp_at hj] at he
    have h1 := perm_next hp hi
    have h2 := perm_next hp hj
    have := perm_inj hq (by omega) (by omega) he
    exact perm_inj hp hi hj (by omega)

/-- One generator's turn at place a. -/
def genStep (a : Nat) (st : Option (List (List Int))) (s : List Int) : Option (List (List Int)) :=
  match st with
  | none => none
  | some q => if compose (q.getD a []) s ∈ q then some q else if q.length = 120 then none else some (q ++ [compose (q.getD a []) s])
def genRow (gens : List (List Int)) (a : Nat) (q : List (List Int)) : Option (List (List Int)) := gens.foldl (genStep a) (some q)
def genGo (gens : List (List Int)) : Nat → Nat → List (List Int) → Option (List (List Int))
  | 0, _, q => some q
  | f + 1, a, q => if a < q.length then (match genRow gens a q with | none => none | some q' => genGo gens f (a + 1) q') else some q
def gensOk (n : Nat) (gens : List (List Int)) : Bool := gens.all fun p => permOk p && decide (p.length = n)
def leL (a b : List Int) : Bool := !ltL b a
def sortL (q : List (List Int)) : List (List Int) := q.mergeSort leL
def genAll (n : Nat) (gens : List (List Int)) : Option (List (List Int)) := genGo gens 121 0 [identity n]
def groupOf (n : Int) (gens : List (List Int)) : List (List Int) × Bool :=
  if 1 ≤ n ∧ n ≤ 10 ∧ gensOk n.toNat gens = true then (match genAll n.toNat gens with | none => ([], false) | some q => (sortL q, true)) else ([], false)

theorem gensOk_iff {n : Nat} {gens : List (List Int)} : gensOk n gens = true ↔ ∀ p ∈ gens, permOk p = true ∧ p.length = n := by
  unfold gensOk; simp only [List.all_eq_true, Bool.and_eq_true, decide_eq_true_iff]
theorem gensOk_no {n k : Nat} {gens : List (List Int)} (hk : k < gens.length) (h : permOk (gens.getD k []) = false ∨ (gens.getD k []).length ≠ n) : gensOk n gens = false := by
  rw [Bool.eq_false_iff]
  intro e
  obtain ⟨h1, h2⟩ := gensOk_iff.1 e _ (getD_memS hk)
  rcases h with h | h
  · rw [h1] at h; cases h
  · exact h h2
theorem groupOf_bad {n : Int} {gens : List (List Int)} (h : n < 1 ∨ 10 < n ∨ gensOk n.toNat gens = false) : groupOf n gens = ([], false) := by
  unfold groupOf
  rw [if_neg]
  rintro ⟨h1, h2, h3⟩
  rcases h with h | h | h
  · omega
  · omega
  · rw [h3] at h; cases h
theorem groupOf_none {n : Nat} {gens : List (List Int)} (h1 : 1 ≤ n) (h2 : n ≤ 10) (hg : gensOk n gens = true) (h : genAll n gens = none) : groupOf n gens = ([], false) := by
  unfold groupOf
  rw [if_pos ⟨by omega, by omega, by simpa using hg⟩, Int.toNat_natCast, h]
theorem groupOf_some {n : Nat} {gens q : List (List Int)} (h1 : 1 ≤ n) (h2 : n ≤ 10) (hg : gensOk n gens = true) (h : genAll n gens = some q) : groupOf n gens = (sortL q, true) := by
  unfold groupOf
  rw [if_pos ⟨by omega, by omega, by simpa using hg⟩, Int.toNat_natCast, h]

theorem leL_iff {a b : List Int} : leL a b = true ↔ cmpL a b ≤ 0 := by
  unfold leL ltL
  have := cmpL_swap a b
  rw [Bool.not_eq_true', decide_eq_false_iff_not]
  omega
theorem leL_trans (a b c : List Int) (h1 : leL a b = true) (h2 : leL b c = true) : leL a c = true := by
  rw [leL_iff] at *
  by_cases e1 : cmpL a b = 0
  · rw [cmpL_zero e1]; exact h2
  · by_cases e2 : cmpL b c = 0
    · rw [← cmpL_zero e2]; exact h1
    · have := cmpL_trans (a := a) (b := b) (c := c) (by omega) (by omega); omega
theorem leL_total (a b : List Int) : (leL a b || leL b a) = true := by
  rw [Bool.or_eq_true, leL_iff, leL_iff]
  have := cmpL_swap a b
  omega
theorem leL_antisymm {a b : List Int} (h1 : leL a b = true) (h2 : leL b a = true) : a = b := by
  rw [leL_iff] at *
  have := cmpL_swap a b
  exact cmpL_zero (by omega)
theorem sortL_perm (q : List (List Int)) : (sortL q).Perm q := List.mergeSort_perm _ _
theorem sortL_len (q : List (List Int)) : (sortL q).length = q.length := (sortL_perm q).length_eq
theorem mem_sortL {q : List (List Int)} {x : List Int} : x ∈ sortL q ↔ x ∈ q := (sortL_perm q).mem_iff
theorem sortL_sorted (q : List (List Int)) : (sortL q).Pairwise (fun a b => leL a b = true) := List.pairwise_mergeSort leL_trans leL_total q
/-- One list alone is sorted and has these members. -/
theorem sortL_unique {q r : List (List Int)} (hr : r.Pairwise (fun a b => leL a b = true)) (h : r.Perm q) : r = sortL q :=
  List.Perm.eq_of_pairwise (le := fun a b => leL a b = true) (fun _ _ _ _ h1 h2 => leL_antisymm h1 h2) hr (sortL_sorted q) (h.trans (sortL_perm q).symm)
theorem ltL_le {a b : List Int} (h : ltL a b = true) : leL a b = true := by
  rw [leL_iff]; have := of_decide_eq_true h; omega
theorem ltL_of_le {a b : List Int} (h : leL a b = true) (hne : a ≠ b) : ltL a b = true := by
  rw [leL_iff] at h
  refine decide_eq_true ?_
  rcases Int.lt_or_eq_of_le h with h | h
  · exact h
  · exact absurd (cmpL_zero h) hne
theorem sortL_asc {q : List (List Int)} (h : q.Nodup) : Asc (sortL q) := by
  have hn : (sortL q).Nodup := (sortL_perm q).nodup_iff.2 h
  have hs := sortL_sorted q
  rw [List.nodup_iff_pairwise_ne] at hn
  have hb := hs.and hn
  rw [List.pairwise_iff_getElem] at hb
  intro i j hij hj
  have := hb i j (by omega) hj hij
  simp only [List.getD, List.getElem?_eq_getElem hj, List.getElem?_eq_getElem (show i < (sortL q).length by omega), Option.getD_some]
  exact ltL_of_le this.1 this.2
theorem asc_sorted {g : List (List Int)} (h : Asc g) : g.Pairwise (fun a b => leL a b = true) := by
  rw [List.pairwise_iff_getElem]
  intro i j hi hj hij
  have := h i j hij hj
  simp only [List.getD, List.getElem?_eq_getElem hj, List.getElem?_eq_getElem hi, Option.getD_some] at this
  exact ltL_le this
theorem sortL_of_asc {g : List (List Int)} (h : Asc g) : sortL g = g := (sortL_unique (asc_sorted h) (List.Perm.refl _)).symm

/-- A list put into a sorted list of lists. -/
def putAt (g : List (List Int)) (p : List Int) : Nat := (g.takeWhile fun x => ltL x p).length
def putL (g : List (List Int)) (p : List Int) : List (List Int) := g.take (putAt g p) ++ [p] ++ g.drop (putAt g p)
theorem putL_cons_lt {x p : List Int} {g : List (List Int)} (h : ltL x p = true) : putL (x :: g) p = x :: putL g p := by
  unfold putL putAt; simp [h]
theorem putL_cons_ge {x p : List Int} {g : List (List Int)} (h : ltL x p = false) : putL (x :: g) p = p :: x :: g := by
  unfold putL putAt; simp [h]
theorem putL_perm (g : List (List Int)) (p : List Int) : (putL g p).Perm (g ++ [p]) := by
  unfold putL
  have h : (List.take (putAt g p) g ++ List.drop (putAt g p) g ++ [p]).Perm (g ++ [p]) := by rw [List.take_append_drop]
  refine List.Perm.trans ?_ h
  rw [List.append_assoc, List.append_assoc]
  exact List.Perm.append_left _ List.perm_append_comm
theorem putL_len (g : List (List Int)) (p : List Int) : (putL g p).length = g.length + 1 := by rw [(putL_perm g p).length_eq]; simp
theorem mem_putL {g : List (List Int)} {p x : List Int} : x ∈ putL g p ↔ x ∈ g ∨ x = p := by rw [(putL_perm g p).mem_iff]; simp
theorem putL_sorted {g : List (List Int)} {p : List Int} (h : g.Pairwise (fun a b => leL a b = true)) : (putL g p).Pairwise (fun a b => leL a b = true) := by
  induction g with
  | nil => simp [putL, putAt]
  | cons x g ih =>
    obtain ⟨h1, h2⟩ := List.pairwise_cons.1 h
    cases hx : ltL x p with
    | true =>
      rw [putL_cons_lt hx]
      refine List.pairwise_cons.2 ⟨fun y hy => ?_, ih h2⟩
      rcases mem_putL.1 hy with hy | rfl
      · exact h1 y hy
      · exact ltL_le hx
    | false =>
      rw [putL_cons_ge hx]
      have hpx : leL p x = true := by unfold leL; rw [hx]; rfl
      refine List.pairwise_cons.2 ⟨fun y hy => ?_, h⟩
      rcases List.mem_cons.1 hy with rfl | hy
      · exact hpx
      · exact leL_trans _ _ _ hpx (h1 y hy)
theorem putL_sortL (q : List (List Int)) (p : List Int) : putL (sortL q) p = sortL (q ++ [p]) :=
  sortL_unique (putL_sorted (sortL_sorted q)) ((putL_perm _ _).trans (List.Perm.append_right _ (sortL_perm q)))
theorem putAt_le (g : List (List Int)) (p : List Int) : putAt g p ≤ g.length := by
  unfold putAt; exact (List.takeWhile_sublist _).length_le
theorem putAt_lt {g : List (List Int)} {p : List Int} {k : Nat} (h : ∀ i, i < k → ltL (g.getD i []) p = true) (hk : k ≤ g.length) (hs : k < g.length → ltL (g.getD k []) p = false) : putAt g p = k := by
  induction g generalizing k with
  | nil => simp at hk; subst hk; rfl
  | cons x g ih =>
    cases k with
    | zero =>
      have := hs (by simp)
      simp only [List.getD_cons_zero] at this
      unfold putAt; simp [this]
    | succ k =>
      have h0 := h 0 (by omega)
      simp only [List.getD_cons_zero] at h0
      have := ih (k := k) (fun i hi => by have := h (i + 1) (by omega); simpa using this) (by simpa using hk) (fun hlt => by have := hs (by simpa using hlt); simpa using this)
      unfold putAt at *
      simp [h0, this]

/-- What the list of the group's elements is like while it grows. -/
structure Gen (n : Nat) (q : List (List Int)) : Prop where
  one : 1 ≤ q.length
  le : q.length ≤ 120
  nodup : q.Nodup
  perm : ∀ p ∈ q, permOk p = true ∧ p.length = n
theorem Gen.start {n : Nat} (h1 : 1 ≤ n) (h2 : n ≤ 10) : Gen n [identity n] :=
  ⟨by simp, by simp, by simp, fun p hp => by rw [List.mem_singleton.1 hp]; exact ⟨identity_ok h1 h2, identity_len n⟩⟩
theorem Gen.new {n a : Nat} {q : List (List Int)} {s : List Int} (h : Gen n q) (ha : a < q.length) (hs : permOk s = true ∧ s.length = n) (hne : compose (q.getD a []) s ∉ q) (h120 : q.length ≠ 120) : Gen n (q ++ [compose (q.getD a []) s]) := by
  have hm := h.perm _ (getD_memS ha)
  have hl := h.le
  refine ⟨by simp, by simp; omega, ?_, fun p hp => ?_⟩
  · rw [List.nodup_append]
    exact ⟨h.nodup, by simp, fun a ha b hb e => by simp only [List.mem_singleton] at hb; subst hb; exact hne (e ▸ ha)⟩
  · rcases List.mem_append.1 hp with hp | hp
    · exact h.perm p hp
    · rw [List.mem_singleton.1 hp]
      exact ⟨compose_ok hm.1 hs.1 (by rw [hm.2, hs.2]), by rw [compose_len]; exact hm.2⟩
/-- What is left to do of a row, of the whole. -/
def genRest (gens : List (List Int)) (j a : Nat) (q : List (List Int)) : Option (List (List Int)) := (gens.drop j).foldl (genStep a) (some q)
theorem genRest_zero (gens : List (List Int)) (a : Nat) (q : List (List Int)) : genRest gens 0 a q = genRow gens a q := rfl
theorem genRest_end {gens : List (List Int)} {j a : Nat} {q : List (List Int)} (h : gens.length ≤ j) : genRest gens j a q = some q := by
  unfold genRest; rw [List.drop_eq_nil_of_le h]; rfl
theorem foldl_none (a : Nat) (l : List (List Int)) : l.foldl (genStep a) none = none := by
  induction l with
  | nil => rfl
  | cons x l ih => rw [List.foldl_cons]; exact ih
theorem genRest_cons {gens : List (List Int)} {j a : Nat} {q : List (List Int)} (h : j < gens.length) : genRest gens j a q = (gens.drop (j + 1)).foldl (genStep a) (genStep a (some q) (gens.getD j [])) := by
  unfold genRest
  rw [List.drop_eq_getElem_cons h, List.foldl_cons]
  congr 2
  simp [List.getElem?_eq_getElem h]
theorem genRest_old {gens : List (List Int)} {j a : Nat} {q : List (List Int)} (h : j < gens.length) (hm : compose (q.getD a []) (gens.getD j []) ∈ q) : genRest gens j a q = genRest gens (j + 1) a q := by
  rw [genRest_cons h]
  unfold genStep
  simp only [if_pos hm]
  rfl
theorem genRest_full {gens : List (List Int)} {j a : Nat} {q : List (List Int)} (h : j < gens.length) (hm : compose (q.getD a []) (gens.getD j []) ∉ q) (h120 : q.length = 120) : genRest gens j a q = none := by
  rw [genRest_cons h]
  have : genStep a (some q) (gens.getD j []) = none := by unfold genStep; simp only [if_neg hm, if_pos h120]
  rw [this, foldl_none]
theorem genRest_new {gens : List (List Int)} {j a : Nat} {q : List (List Int)} (h : j < gens.length) (hm : compose (q.getD a []) (gens.getD j []) ∉ q) (h120 : q.length ≠ 120) : genRest gens j a q = genRest gens (j + 1) a (q ++ [compose (q.getD a []) (gens.getD j [])]) := by
  rw [genRest_cons h]
  have : genStep a (some q) (gens.getD j []) = some (q ++ [compose (q.getD a []) (gens.getD j [])]) := by unfold genStep; simp only [if_neg hm, if_neg h120]
  rw [this]; rfl
theorem genGo_stop {gens : List (List Int)} {f a : Nat} {q : List (List Int)} (h : q.length ≤ a) : genGo gens f a q = some q := by
  cases f with
  | zero => rfl
  | succ f => unfold genGo; rw [if_neg (by omega)]
theorem genGo_none {gens : List (List Int)} {f a : Nat} {q : List (List Int)} (hf : 0 < f) (h : a < q.length) (hr : genRow gens a q = none) : genGo gens f a q = none := by
  obtain ⟨f, rfl⟩ : ∃ k, f = k + 1 := ⟨f - 1, by omega⟩
  unfold genGo; rw [if_pos h, hr]
theorem genGo_some {gens : List (List Int)} {f a : Nat} {q q' : List (List Int)} (hf : 0 < f) (h : a < q.length) (hr : genRow gens a q = some q') : genGo gens f a q = genGo gens (f - 1) (a + 1) q' := by
  obtain ⟨f, rfl⟩ : ∃ k, f = k + 1 := ⟨f - 1, by omega⟩
  rw [genGo, if_pos h, hr]; rfl
end Go.Proofs.Ytfanohebejemmaa
