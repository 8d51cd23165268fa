/-
  Plain Lean: the cycles of a permutation as the program's loops find them.
-/
import Derived.Test.YtfanohebejemmaaPermFn
namespace Go.Proofs.Ytfanohebejemmaa

/-- Has j been met? -/
def memB (met : List Int) (j : Nat) : Bool := decide ((j : Int) ∈ met)
theorem memB_snoc {met : List Int} {m : Nat} (j : Nat) : memB (met ++ [(m : Int)]) j = if j = m then true else memB met j := by
  unfold memB
  by_cases h : j = m
  · rw [if_pos h]; exact decide_eq_true (by rw [h]; simp)
  · rw [if_neg h, decide_eq_decide, List.mem_append]
    constructor
    · rintro (h' | h')
      · exact h'
      · simp only [List.mem_singleton] at h'; omega
    · exact .inl

/-- The points from x on that have not been met. -/
def walkC (p : List Int) : Nat → List Int → Int → List Int
  | 0, _, _ => []
  | f + 1, met, x => if x ∈ met then [] else x :: walkC p f (met ++ [x]) (p.getD x.toNat 0)
def cycFrom (p met : List Int) (x : Int) : List Int := walkC p (p.length + 1 - met.length) met x
def cycStep (p : List Int) (s : List (List Int)) (i : Nat) : List (List Int) := if (i : Int) ∈ s.flatten then s else s ++ [cycFrom p s.flatten (i : Int)]
def cyclesTo (p : List Int) (k : Nat) : List (List Int) := (List.range k).foldl (cycStep p) []
def cyclesOf (p : List Int) : List (List Int) := if permOk p = true then cyclesTo p p.length else []

def countCycles (p : List Int) : Int := ((cyclesOf p).length : Int)

theorem cyclesTo_zero (p : List Int) : cyclesTo p 0 = [] := rfl
theorem cyclesTo_succ (p : List Int) (k : Nat) : cyclesTo p (k + 1) = cycStep p (cyclesTo p k) k := by unfold cyclesTo; rw [List.range_succ, List.foldl_append]; rfl

/-- Points, each met once. -/
def Met (n : Nat) (met : List Int) : Prop := met.Nodup ∧ ∀ x ∈ met, 0 ≤ x ∧ x < (n : Int)
theorem Met.len {n : Nat} {met : List Int} (h : Met n met) : met.length ≤ n := by
  have : met.length ≤ (identity n).length := List.Nodup.length_le_of_subset h.1 fun x hx => by
    obtain ⟨h1, h2⟩ := h.2 x hx
    exact List.mem_map.2 ⟨x.toNat, List.mem_range.2 (by omega), by omega⟩
  rwa [identity_len] at this
theorem Met.nil (n : Nat) : Met n [] := ⟨by simp, by simp⟩
theorem Met.snoc {n : Nat} {met : List Int} (h : Met n met) {x : Int} (h0 : 0 ≤ x) (h1 : x < (n : Int)) (hx : x ∉ met) : Met n (met ++ [x]) := by
  refine ⟨?_, fun y hy => ?_⟩
  · rw [List.nodup_append]
    exact ⟨h.1, by simp, fun a ha b hb => by simp only [List.mem_singleton] at hb; subst hb; exact fun e => hx (e ▸ ha)⟩
  · rcases List.mem_append.1 hy with hy | hy
    · exact h.2 y hy
    · simp only [List.mem_singleton] at hy; subst hy; exact ⟨h0, h1⟩

theorem cycFrom_stop {p met : List Int} {x : Int} (h : x ∈ met) : cycFrom p met x = [] := by
  unfold cycFrom
  cases p.length + 1 - met.length with
  | zero => rfl
  | succ f => unfold walkC; rw [if_pos h]
theorem cycFrom_go {p met : List Int} {x : Int} (hm : Met p.length met) (h : x ∉ met) : cycFrom p met x = x :: cycFrom p (met ++ [x]) (p.getD x.toNat 0) := by
  have hl := hm.len
  unfold cycFrom
  rw [show p.length + 1 - met.length = (p.length + 1 - (met ++ [x]).length) + 1 from by simp; omega]
  rw [walkC, if_neg h]

theorem perm_next {p : List Int} (hp : permOk p = true) {x : Nat} (h : x < p.length) : 0 ≤ p.getD x 0 ∧ p.getD x 0 < (p.length : Int) := permOk_mem hp _ (getD_mem h)

/-- What holds of the rest of a cycle: its points are met once, beside those before it. -/
theorem walkC_met {p : List Int} (hp : permOk p = true) : ∀ (f : Nat) (met : List Int) (x : Int), Met p.length met → 0 ≤ x → x < (p.length : Int) → Met p.length (met ++ walkC p f met x) := by
  intro f
  induction f with
  | zero => intro met x hm _ _; simpa [walkC] using hm
  | succ f ih =>
    intro met x hm h0 h1
    unfold walkC
    split
    · simpa using hm
    · rename_i hx
      have hn := perm_next hp (x := x.toNat) (by omega)
      have := ih (met ++ [x]) _ (hm.snoc h0 h1 hx) hn.1 hn.2
      simpa using this
theorem cyclesTo_met {p : List Int} (hp : permOk p = true) : ∀ k, k ≤ p.length → Met p.length (cyclesTo p k).flatten := by
  intro k
  induction k with
  | zero => intro _; exact Met.nil _
  | succ k ih =>
    intro hk
    rw [cyclesTo_succ]
    unfold cycStep
    split
    · exact ih (by omega)
    · rw [List.flatten_append]
      have := walkC_met hp (p.length + 1 - (cyclesTo p k).flatten.length) (cyclesTo p k).flatten (k : Int) (ih (by omega)) (by omega) (by omega)
      simpa [cycFrom] using this
theorem cyclesTo_len (p : List Int) (k : Nat) : (cyclesTo p k).length ≤ k := by
  induction k with
  | zero => simp [cyclesTo_zero]
  | succ k ih =>
    rw [cyclesTo_succ]
    unfold cycStep
    split
    · omega
    · simp; omega
theorem cyclesOf_len (p : List Int) : (cyclesOf p).length ≤ 10 := by
  unfold cyclesOf
  split
  · rename_i h; have := cyclesTo_len p p.length; have := (permOk_le h).2; omega
  · simp
theorem cyclesOf_yes {p : List Int} (h : permOk p = true) : cyclesOf p = cyclesTo p p.length := by unfold cyclesOf; rw [if_pos h]
theorem cyclesOf_no {p : List Int} (h : permOk p = false) : cyclesOf p = [] := by unfold cyclesOf; rw [if_neg (by rw [h]; simp)]
theorem cyclesOf_total (p : List Int) : (cyclesOf p).flatten.length ≤ 10 := by
  unfold cyclesOf
  split
  · rename_i h; have := (cyclesTo_met h p.length (Nat.le_refl _)).len; have := (permOk_le h).2; omega
  · simp
end Go.Proofs.Ytfanohebejemmaa
