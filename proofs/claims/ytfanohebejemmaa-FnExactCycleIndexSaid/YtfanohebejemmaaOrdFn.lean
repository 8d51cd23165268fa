/-
  Plain Lean: lists of integers in lexicographic order; ascending lists of lists; the place of a list in one.
-/
import Derived.Test.YtfanohebejemmaaPermFn
namespace Go.Proofs.Ytfanohebejemmaa

/-- Below zero, zero, above zero, as a is less than, equal to, greater than b. -/
def cmpL : List Int → List Int → Int
  | [], [] => 0
  | [], _ :: _ => -1
  | _ :: _, [] => 1
  | x :: a, y :: b => if x < y then -1 else if y < x then 1 else cmpL a b
def ltL (a b : List Int) : Bool := decide (cmpL a b < 0)

theorem cmpL_self (a : List Int) : cmpL a a = 0 := by
  induction a with
  | nil => rfl
  | cons x a ih => unfold cmpL; rw [if_neg (by omega), if_neg (by omega), ih]
theorem cmpL_zero : ∀ {a b : List Int}, cmpL a b = 0 → a = b := by
  intro a
  induction a with
  | nil => intro b h; cases b with
    | nil => rfl
    | cons y b => simp [cmpL] at h
  | cons x a ih => intro b h; cases b with
    | nil => simp [cmpL] at h
    | cons y b =>
      unfold cmpL at h
      split at h
      · simp at h
      · split at h
        · simp at h
        · rw [ih h, show x = y by omega]
theorem cmpL_swap : ∀ (a b : List Int), cmpL b a = - cmpL a b := by
  intro a
  induction a with
  | nil => intro b; cases b <;> rfl
  | cons x a ih => intro b; cases b with
    | nil => rfl
    | cons y b =>
      unfold cmpL
      by_cases h1 : x < y
      · rw [if_neg (by omega), if_pos h1, if_pos h1]; rfl
      · by_cases h2 : y < x
        · rw [if_pos h2, if_neg h1, if_pos h2]
        · rw [if_neg h2, if_neg h1, if_neg h1, if_neg h2, ih]
theorem cmpL_trans : ∀ {a b c : List Int}, cmpL a b < 0 → cmpL b c < 0 → cmpL a c < 0 := by
  intro a
  induction a with
  | nil => intro b c h1 h2; cases b with
    | nil => simp [cmpL] at h1
    | cons y b => cases c with
      | nil => simp [cmpL] at h2
      | cons z c => simp [cmpL]
  | cons x a ih => intro b c h1 h2; cases b with
    | nil => simp [cmpL] at h1
    | cons y b => cases c with
      | nil => simp [cmpL] at h2
      | cons z c =>
        unfold cmpL at h1 h2 ⊢
        by_cases hxy : x < y
        · by_cases hyz : z < y
          · rw [if_neg (by omega), if_pos hyz] at h2; omega
          · rw [if_pos (by omega)]; omega
        · by_cases hyx : y < x
          · rw [if_neg hxy, if_pos hyx] at h1; omega
          · obtain rfl : x = y := by omega
            rw [if_neg hxy, if_neg hyx] at h1
            by_cases hyz : x < z
            · rw [if_pos hyz]; omega
            · by_cases hzy : z < x
              · rw [if_neg hyz, if_pos hzy] at h2; omega
              · rw [if_neg hyz, if_neg hzy] at h2 ⊢
                exact ih h1 h2

theorem ltL_irrefl (a : List Int) : ltL a a = false := by unfold ltL; rw [cmpL_self]; rfl
theorem ltL_trans {a b c : List Int} (h1 : ltL a b = true) (h2 : ltL b c = true) : ltL a c = true :=
  decide_eq_true (cmpL_trans (of_decide_eq_true h1) (of_decide_eq_true h2))
theorem ltL_total {a b : List Int} (h : ltL a b = false) (hne : a ≠ b) : ltL b a = true := by
  have h1 := of_decide_eq_false h
  refine decide_eq_true ?_
  rw [cmpL_swap]
  have : cmpL a b ≠ 0 := fun e => hne (cmpL_zero e)
  omega
theorem ltL_asymm {a b : List Int} (h : ltL a b = true) : ltL b a = false := by
  have h1 := of_decide_eq_true h
  refine decide_eq_false ?_
  rw [cmpL_swap]; omega

/-- The first place where two lists differ decides. -/
theorem cmpL_diff : ∀ {k : Nat} {a b : List Int}, k < a.length → k < b.length → a.take k = b.take k → a.getD k 0 ≠ b.getD k 0 → cmpL a b = if a.getD k 0 < b.getD k 0 then -1 else 1 := by
  intro k
  induction k with
  | zero =>
    intro a b ha hb _ hne
    cases a with
    | nil => simp at ha
    | cons x a => cases b with
      | nil => simp at hb
      | cons y b =>
        simp only [List.getD_cons_zero] at hne ⊢
        unfold cmpL
        by_cases h : x < y
        · rw [if_pos h, if_pos h]
        · rw [if_neg h, if_neg h, if_pos (by omega)]
  | succ k ih =>
    intro a b ha hb ht hne
    cases a with
    | nil => simp at ha
    | cons x a => cases b with
      | nil => simp at hb
      | cons y b =>
        simp only [List.getD_cons_succ] at hne ⊢
        simp only [List.take_succ_cons, List.cons.injEq] at ht
        obtain ⟨rfl, ht⟩ := ht
        unfold cmpL
        rw [if_neg (by omega), if_neg (by omega)]
        exact ih (by simpa using ha) (by simpa using hb) ht hne
theorem cmpL_prefix : ∀ {a b : List Int}, a.length ≤ b.length → a = b.take a.length → cmpL a b = if a.length < b.length then -1 else 0 := by
  intro a
  induction a with
  | nil => intro b _ _; cases b <;> simp [cmpL]
  | cons x a ih => intro b hl ht; cases b with
    | nil => simp at hl
    | cons y b =>
      simp only [List.length_cons, List.take_succ_cons, List.cons.injEq] at ht
      obtain ⟨rfl, ht⟩ := ht
      unfold cmpL
      rw [if_neg (by omega), if_neg (by omega), ih (by simpa using hl) ht]
      simp
theorem cmpL_longer {a b : List Int} (hl : b.length < a.length) (ht : b = a.take b.length) : cmpL a b = 1 := by
  rw [cmpL_swap, cmpL_prefix (by omega) ht, if_pos hl]; rfl
theorem cmpL_range (a b : List Int) : cmpL a b = -1 ∨ cmpL a b = 0 ∨ cmpL a b = 1 := by
  induction a generalizing b with
  | nil => cases b <;> simp [cmpL]
  | cons x a ih => cases b with
    | nil => simp [cmpL]
    | cons y b =>
      unfold cmpL
      split
      · simp
      · split
        · simp
        · exact ih b

/-- Ascending: each list is less than each behind it. -/
def Asc (g : List (List Int)) : Prop := ∀ i j, i < j → j < g.length → ltL (g.getD i []) (g.getD j []) = true
theorem asc_of_next {g : List (List Int)} (h : ∀ j, 0 < j → j < g.length → ltL (g.getD (j - 1) []) (g.getD j []) = true) : Asc g := by
  intro i j
  induction j with
  | zero => intro hij _; omega
  | succ j ih =>
    intro hij hj
    have h1 := h (j + 1) (by omega) hj
    simp only [Nat.add_sub_cancel] at h1
    rcases Nat.lt_or_ge i j with hlt | hge
    · exact ltL_trans (ih hlt (by omega)) h1
    · obtain rfl : i = j := by omega
      exact h1

/-- The place of a list; -1 if it is not there. -/
def findIdx (g : List (List Int)) (p : List Int) : Int := if p ∈ g then (g.idxOf p : Int) else -1
theorem getD_memS {g : List (List Int)} {k : Nat} (h : k < g.length) : g.getD k [] ∈ g := by simp [List.getElem?_eq_getElem h]
theorem mem_getD {g : List (List Int)} {p : List Int} (h : p ∈ g) : ∃ j, j < g.length ∧ g.getD j [] = p := by
  obtain ⟨j, hj, e⟩ := List.getElem_of_mem h
  exact ⟨j, hj, by simp [List.getElem?_eq_getElem hj, e]⟩
theorem Asc.nodup {g : List (List Int)} (h : Asc g) : g.Nodup := by
  unfold List.Nodup
  rw [List.pairwise_iff_getElem]
  intro i j hi hj hij e
  have hl := h i j hij hj
  simp only [List.getD_eq_getElem?_getD, List.getElem?_eq_getElem hj, List.getElem?_eq_getElem hi, Option.getD_some] at hl
  rw [e, ltL_irrefl] at hl
  cases hl
theorem findIdx_at {g : List (List Int)} (h : Asc g) {j : Nat} (hj : j < g.length) : findIdx g (g.getD j []) = (j : Int) := by
  unfold findIdx
  rw [if_pos (getD_memS hj)]
  have e : g.getD j [] = g[j] := by simp [List.getElem?_eq_getElem hj]
  rw [e, List.Nodup.idxOf_getElem h.nodup j hj]
/-- What a search by halves ends in. -/
theorem findIdx_split {g : List (List Int)} (h : Asc g) {p : List Int} {a : Nat} (hb : ∀ i, i < a → i < g.length → ltL (g.getD i []) p = true) (hab : ∀ i, a ≤ i → i < g.length → ltL (g.getD i []) p = false) :
    (a < g.length → g.getD a [] = p → findIdx g p = (a : Int)) ∧ ((a < g.length → g.getD a [] ≠ p) → findIdx g p = -1) := by
  refine ⟨fun ha e => by rw [← e]; exact findIdx_at h ha, fun hne => ?_⟩
  unfold findIdx
  rw [if_neg]
  intro hp
  obtain ⟨j, hj, rfl⟩ := mem_getD hp
  rcases Nat.lt_trichotomy j a with hlt | heq | hgt
  · have := hb j hlt hj; rw [ltL_irrefl] at this; cases this
  · subst heq; exact hne hj rfl
  · have h1 := h a j hgt hj
    have h2 := hab a (Nat.le_refl _) (by omega)
    rw [h1] at h2; cases h2
theorem findIdx_range (g : List (List Int)) (p : List Int) : (0 ≤ findIdx g p ∧ findIdx g p < (g.length : Int) ∧ p ∈ g) ∨ (findIdx g p = -1 ∧ p ∉ g) := by
  unfold findIdx
  by_cases h : p ∈ g
  · rw [if_pos h]
    have := List.idxOf_lt_length_of_mem h
    exact .inl ⟨by omega, by omega, h⟩
  · rw [if_neg h]; exact .inr ⟨rfl, h⟩
theorem findIdx_get {g : List (List Int)} {p : List Int} (h : p ∈ g) : g.getD (findIdx g p).toNat [] = p := by
  unfold findIdx
  rw [if_pos h, Int.toNat_natCast]
  have := List.idxOf_lt_length_of_mem h
  simp [List.getElem?_eq_getElem this]

/-- What the first loop of GroupOk asks of place i. -/
def RowOk (g : List (List Int)) (i : Nat) : Prop := permOk (g.getD i []) = true ∧ (g.getD i []).length = (g.getD 0 []).length ∧ (0 < i → ltL (g.getD (i - 1) []) (g.getD i []) = true)
/-- From 1 to 120 permutations of one degree, ascending, with the composition of any two. -/
def rowOk (g : List (List Int)) (i : Nat) : Bool := permOk (g.getD i []) && decide ((g.getD i []).length = (g.getD 0 []).length) && (decide (i = 0) || ltL (g.getD (i - 1) []) (g.getD i []))
def groupOk (g : List (List Int)) : Bool := decide (1 ≤ g.length ∧ g.length ≤ 120) && (List.range g.length).all (rowOk g) && g.all fun p => g.all fun q => g.contains (compose p q)
theorem rowOk_iff {g : List (List Int)} {i : Nat} : rowOk g i = true ↔ RowOk g i := by
  unfold rowOk RowOk
  simp only [Bool.and_eq_true, Bool.or_eq_true, decide_eq_true_iff, and_assoc]
  constructor
  · rintro ⟨h1, h2, h3⟩
    refine ⟨h1, h2, fun h0 => ?_⟩
    rcases h3 with h3 | h3
    · omega
    · exact h3
  · rintro ⟨h1, h2, h3⟩
    refine ⟨h1, h2, ?_⟩
    rcases Nat.eq_zero_or_pos i with h0 | h0
    · exact .inl h0
    · exact .inr (h3 h0)
theorem groupOk_iff {g : List (List Int)} : groupOk g = true ↔ (1 ≤ g.length ∧ g.length ≤ 120) ∧ (∀ i, i < g.length → RowOk g i) ∧ ∀ p ∈ g, ∀ q ∈ g, compose p q ∈ g := by
  unfold groupOk
  simp only [Bool.and_eq_true, decide_eq_true_iff, List.all_eq_true, List.mem_range, List.contains_iff_mem, rowOk_iff, and_assoc]
theorem groupOk_no {g : List (List Int)} (h : ¬ ((1 ≤ g.length ∧ g.length ≤ 120) ∧ (∀ i, i < g.length → RowOk g i) ∧ ∀ p ∈ g, ∀ q ∈ g, compose p q ∈ g)) : groupOk g = false := by
  rw [Bool.eq_false_iff]; exact fun e => h (groupOk_iff.1 e)
theorem rows_asc {g : List (List Int)} (h : ∀ i, i < g.length → RowOk g i) : Asc g := asc_of_next fun j h0 hj => (h j hj).2.2 h0
theorem rows_perm {g : List (List Int)} (h : ∀ i, i < g.length → RowOk g i) {p : List Int} (hp : p ∈ g) : permOk p = true ∧ p.length = (g.getD 0 []).length := by
  obtain ⟨j, hj, rfl⟩ := mem_getD hp
  exact ⟨(h j hj).1, (h j hj).2.1⟩
end Go.Proofs.Ytfanohebejemmaa
