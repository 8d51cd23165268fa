/-
  Plain Lean: in how many ways cycles get colors, and what CountFixed, CountContents, TwoColors compute.
-/
import Derived.Test.YtfanohebejemmaaGrpFn
namespace Go.Proofs.Ytfanohebejemmaa

/-- In how many ways lists of the lengths ks get colors such that each color has the points that are left for it. -/
def ways : List Nat → List Int → Nat
  | [], _ => 1
  | k :: ks, left => ((List.range left.length).map fun i => if (k : Int) ≤ left.getD i 0 then ways ks (left.set i (left.getD i 0 - (k : Int))) else 0).sum
/-- The first j colors. -/
def waysTo (k : Nat) (ks : List Nat) (left : List Int) (j : Nat) : Nat := ((List.range j).map fun i => if (k : Int) ≤ left.getD i 0 then ways ks (left.set i (left.getD i 0 - (k : Int))) else 0).sum
theorem ways_nil (left : List Int) : ways [] left = 1 := by unfold ways; rfl
theorem ways_cons (k : Nat) (ks : List Nat) (left : List Int) : ways (k :: ks) left = waysTo k ks left left.length := by rw [ways]; rfl
theorem waysTo_zero (k : Nat) (ks : List Nat) (left : List Int) : waysTo k ks left 0 = 0 := rfl
theorem waysTo_succ (k : Nat) (ks : List Nat) (left : List Int) (j : Nat) : waysTo k ks left (j + 1) = waysTo k ks left j + (if (k : Int) ≤ left.getD j 0 then ways ks (left.set j (left.getD j 0 - (k : Int))) else 0) := by
  unfold waysTo; rw [List.range_succ]; simp
theorem ways_le : ∀ (ks : List Nat) (left : List Int), left.length ≤ 4 → ways ks left ≤ 4 ^ ks.length := by
  intro ks
  induction ks with
  | nil => intro left _; rw [ways_nil]; simp
  | cons k ks ih =>
    intro left hl
    rw [ways_cons]
    have h : ∀ j, waysTo k ks left j ≤ j * 4 ^ ks.length := by
      intro j
      induction j with
      | zero => simp [waysTo_zero]
      | succ j ihj =>
        rw [waysTo_succ, Nat.succ_mul]
        have : (if (k : Int) ≤ left.getD j 0 then ways ks (left.set j (left.getD j 0 - (k : Int))) else 0) ≤ 4 ^ ks.length := by
          split
          · exact ih _ (by rw [List.length_set]; exact hl)
          · exact Nat.zero_le _
        omega
    have h1 := h left.length
    have h2 : left.length * 4 ^ ks.length ≤ 4 * 4 ^ ks.length := Nat.mul_le_mul_right _ hl
    rw [List.length_cons, Nat.pow_succ]
    omega
theorem waysTo_le {k : Nat} {ks : List Nat} {left : List Int} {j : Nat} (hl : left.length ≤ 4) (hj : j ≤ 4) (hk : ks.length ≤ 9) : waysTo k ks left j ≤ 1048576 := by
  have h : ∀ j, waysTo k ks left j ≤ j * 4 ^ ks.length := by
    intro j
    induction j with
    | zero => simp [waysTo_zero]
    | succ j ihj =>
      rw [waysTo_succ, Nat.succ_mul]
      have : (if (k : Int) ≤ left.getD j 0 then ways ks (left.set j (left.getD j 0 - (k : Int))) else 0) ≤ 4 ^ ks.length := by
        split
        · exact ways_le _ _ (by rw [List.length_set]; exact hl)
        · exact Nat.zero_le _
      omega
  have h1 := h j
  have h2 : j * 4 ^ ks.length ≤ 4 * 4 ^ ks.length := Nat.mul_le_mul_right _ hj
  have h3 : 4 ^ ks.length ≤ 4 ^ 9 := Nat.pow_le_pow_right (by omega) hk
  have h4 : 4 ^ 9 = 262144 := by decide
  omega
/-- What is left for each color. -/
def Left (left : List Int) : Prop := 1 ≤ left.length ∧ left.length ≤ 4 ∧ ∀ i, i < left.length → 0 ≤ left.getD i 0 ∧ left.getD i 0 ≤ 10
theorem Left.set {left : List Int} (h : Left left) {i : Nat} (hi : i < left.length) {x : Int} (h0 : 0 ≤ x) (h1 : x ≤ 10) : Left (left.set i x) := by
  refine ⟨by rw [List.length_set]; exact h.1, by rw [List.length_set]; exact h.2.1, fun j hj => ?_⟩
  rw [List.length_set] at hj
  by_cases e : i = j
  · subst e
    have : (left.set i x).getD i 0 = x := by simp [hi]
    rw [this]; exact ⟨h0, h1⟩
  · have : (left.set i x).getD j 0 = left.getD j 0 := by simp [e]
    rw [this]; exact h.2.2 j hj

def contentsOk (c : List Int) (n : Int) : Bool := decide (c.length ≤ 4 ∧ (∀ x ∈ c, 0 ≤ x ∧ x ≤ 10) ∧ c.sum = n)
theorem contentsOk_iff {c : List Int} {n : Int} : contentsOk c n = true ↔ c.length ≤ 4 ∧ (∀ x ∈ c, 0 ≤ x ∧ x ≤ 10) ∧ c.sum = n := by unfold contentsOk; exact decide_eq_true_iff
theorem contentsOk_long {c : List Int} {n : Int} (h : 4 < c.length) : contentsOk c n = false := by
  rw [Bool.eq_false_iff]; intro e; have := (contentsOk_iff.1 e).1; omega
theorem contentsOk_out {c : List Int} {n : Int} {k : Nat} (hk : k < c.length) (h : c.getD k 0 < 0 ∨ 10 < c.getD k 0) : contentsOk c n = false := by
  rw [Bool.eq_false_iff]; intro e
  have := (contentsOk_iff.1 e).2.1 (c.getD k 0) (getD_mem hk)
  omega
theorem contentsOk_end {c : List Int} {n : Int} (h4 : c.length ≤ 4) (h : ∀ x ∈ c, 0 ≤ x ∧ x ≤ 10) : contentsOk c n = decide (c.sum = n) := by
  unfold contentsOk
  rw [decide_eq_decide]
  exact ⟨fun h => h.2.2, fun e => ⟨h4, h, e⟩⟩
theorem contents_left {c : List Int} {n : Int} (h : contentsOk c n = true) (hn : 1 ≤ n) : Left c := by
  obtain ⟨h4, hx, hs⟩ := contentsOk_iff.1 h
  refine ⟨?_, h4, fun i hi => hx _ (getD_mem hi)⟩
  rcases Nat.eq_zero_or_pos c.length with h0 | h0
  · rw [List.eq_nil_of_length_eq_zero h0] at hs; simp at hs; omega
  · exact h0
theorem sum_take {c : List Int} {k : Nat} (hk : k < c.length) : (c.take (k + 1)).sum = (c.take k).sum + c.getD k 0 := by
  have e : c.take (k + 1) = c.take k ++ [c.getD k 0] := by rw [List.take_add_one, List.getElem?_eq_getElem hk]; simp [hk]
  rw [e, List.sum_append]; simp
theorem sum_take_le {c : List Int} (h : ∀ x ∈ c, 0 ≤ x ∧ x ≤ 10) : 0 ≤ c.sum ∧ c.sum ≤ 10 * c.length := by
  induction c with
  | nil => simp
  | cons x c ih =>
    have h1 := h x (by simp)
    have h2 := ih fun y hy => h y (by simp [hy])
    simp only [List.sum_cons, List.length_cons]
    omega

def cycLens (p : List Int) : List Nat := (cyclesOf p).map List.length
theorem cycLens_len (p : List Int) : (cycLens p).length ≤ 10 := by unfold cycLens; rw [List.length_map]; exact cyclesOf_len p
def countFixed (p c : List Int) : Int := if permOk p = true ∧ contentsOk c p.length = true then (ways (cycLens p) c : Int) else 0
theorem countFixed_ok {p c : List Int} (hp : permOk p = true) (hc : contentsOk c p.length = true) : countFixed p c = (ways (cycLens p) c : Int) := by unfold countFixed; rw [if_pos ⟨hp, hc⟩]
theorem countFixed_bad {p c : List Int} (h : permOk p = false ∨ contentsOk c p.length = false) : countFixed p c = 0 := by
  unfold countFixed
  rw [if_neg]
  rintro ⟨h1, h2⟩
  rcases h with h | h
  · rw [h1] at h; cases h
  · rw [h2] at h; cases h
theorem countFixed_le (p c : List Int) : 0 ≤ countFixed p c ∧ countFixed p c ≤ 1048576 := by
  unfold countFixed
  split
  · rename_i h
    have h1 := ways_le (cycLens p) c (contentsOk_iff.1 h.2).1
    have h2 : 4 ^ (cycLens p).length ≤ 4 ^ 10 := Nat.pow_le_pow_right (by omega) (cycLens_len p)
    have h3 : 4 ^ 10 = 1048576 := by decide
    omega
  · omega
/-- The sum over the group. -/
def fixAll (g : List (List Int)) (c : List Int) : Nat := (g.map fun p => (countFixed p c).toNat).sum
def countContents (g : List (List Int)) (c : List Int) : Int := if groupOk g = true then ((fixAll g c / g.length : Nat) : Int) else -1
theorem countContents_ok {g : List (List Int)} {c : List Int} (hg : groupOk g = true) : countContents g c = ((fixAll g c / g.length : Nat) : Int) := by unfold countContents; rw [if_pos hg]
theorem countContents_bad {g : List (List Int)} {c : List Int} (hg : groupOk g = false) : countContents g c = -1 := by unfold countContents; rw [if_neg (by rw [hg]; simp)]
theorem fixAll_succ {g : List (List Int)} {c : List Int} {j : Nat} (hj : j < g.length) : fixAll (g.take (j + 1)) c = fixAll (g.take j) c + (countFixed (g.getD j []) c).toNat := by
  rw [takeG_succ hj]; simp [fixAll]
theorem fixAll_le (g : List (List Int)) (c : List Int) : fixAll g c ≤ g.length * 1048576 := by
  induction g with
  | nil => simp [fixAll]
  | cons p g ih =>
    have h1 := countFixed_le p c
    simp only [fixAll, List.map_cons, List.sum_cons, List.length_cons] at *
    omega
theorem fixAll_take {g : List (List Int)} (h : Grp g) (c : List Int) (k : Nat) : fixAll (g.take k) c ≤ 125829120 := by
  have h1 := fixAll_le (g.take k) c
  have h2 : (g.take k).length ≤ 120 := by rw [List.length_take]; have := h.le; omega
  omega
def twoAt (g : List (List Int)) (k : Nat) : Int := countContents g [(deg g : Int) - (k : Int), (k : Int)]
def twoTo (g : List (List Int)) (j : Nat) : List Int := (List.range j).map (twoAt g)
def twoColors (g : List (List Int)) : List Int := if groupOk g = true then twoTo g (deg g + 1) else []
theorem twoColors_ok {g : List (List Int)} (hg : groupOk g = true) : twoColors g = twoTo g (deg g + 1) := by unfold twoColors; rw [if_pos hg]
theorem twoColors_bad {g : List (List Int)} (hg : groupOk g = false) : twoColors g = [] := by unfold twoColors; rw [if_neg (by rw [hg]; simp)]
theorem twoTo_succ (g : List (List Int)) (j : Nat) : twoTo g (j + 1) = twoTo g j ++ [twoAt g j] := by unfold twoTo; rw [List.range_succ]; simp
theorem twoTo_len (g : List (List Int)) (j : Nat) : (twoTo g j).length = j := by unfold twoTo; simp
theorem twoColors_len (g : List (List Int)) : (twoColors g).length ≤ 11 := by
  unfold twoColors
  split
  · rename_i h; have := (grp_of h).deg_le; rw [twoTo_len]; omega
  · simp
end Go.Proofs.Ytfanohebejemmaa
