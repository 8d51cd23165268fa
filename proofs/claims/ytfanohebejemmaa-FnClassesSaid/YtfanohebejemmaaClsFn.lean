/-
  Plain Lean: the classes of a group, as both loops find them.
-/
import Derived.Test.YtfanohebejemmaaInv
namespace Go.Proofs.Ytfanohebejemmaa

def conj (x p : List Int) : List Int := compose (compose x p) (inverse x)
/-- Where x carries p. -/
def clsAt (g : List (List Int)) (x p : List Int) : Nat := (findIdx g (conj x p)).toNat
def clsRow (g : List (List Int)) (p : List Int) (m : Int) (out : List Int) (xs : List (List Int)) : List Int := xs.foldl (fun o x => o.set (clsAt g x p) m) out
def clsStep (g : List (List Int)) (s : List Int × Int) (i : Nat) : List Int × Int := if 0 ≤ s.1.getD i 0 then s else (clsRow g (g.getD i []) s.2 s.1 g, s.2 + 1)
def clsTo (g : List (List Int)) (k : Nat) : List Int × Int := (List.range k).foldl (clsStep g) (List.replicate g.length (-1), 0)
def classesOf (g : List (List Int)) : List Int := if groupOk g = true then (clsTo g g.length).1 else []

theorem clsTo_zero (g : List (List Int)) : clsTo g 0 = (List.replicate g.length (-1), 0) := rfl
theorem clsTo_succ (g : List (List Int)) (k : Nat) : clsTo g (k + 1) = clsStep g (clsTo g k) k := by unfold clsTo; rw [List.range_succ, List.foldl_append]; rfl
theorem clsTo_old {g : List (List Int)} {k : Nat} (h : ¬ (clsTo g k).1.getD k 0 < 0) : clsTo g (k + 1) = clsTo g k := by rw [clsTo_succ, clsStep, if_pos (by omega)]
theorem clsTo_new {g : List (List Int)} {k : Nat} (h : (clsTo g k).1.getD k 0 < 0) : clsTo g (k + 1) = (clsRow g (g.getD k []) (clsTo g k).2 (clsTo g k).1 g, (clsTo g k).2 + 1) := by rw [clsTo_succ, clsStep, if_neg (by omega)]
theorem clsRow_nil (g : List (List Int)) (p : List Int) (m : Int) (out : List Int) : clsRow g p m out [] = out := rfl
theorem clsRow_snoc (g : List (List Int)) (p : List Int) (m : Int) (out : List Int) (xs : List (List Int)) (x : List Int) : clsRow g p m out (xs ++ [x]) = (clsRow g p m out xs).set (clsAt g x p) m := by
  unfold clsRow; rw [List.foldl_append]; rfl
theorem clsRow_len (g : List (List Int)) (p : List Int) (m : Int) (out : List Int) (xs : List (List Int)) : (clsRow g p m out xs).length = out.length := by
  induction xs generalizing out with
  | nil => rfl
  | cons x xs ih => unfold clsRow at *; rw [List.foldl_cons, ih, List.length_set]
theorem clsTo_len (g : List (List Int)) (k : Nat) : (clsTo g k).1.length = g.length := by
  induction k with
  | zero => rw [clsTo_zero]; simp
  | succ k ih =>
    rw [clsTo_succ, clsStep]
    split
    · exact ih
    · show (clsRow _ _ _ _ _).length = _; rw [clsRow_len, ih]
theorem clsTo_next (g : List (List Int)) (k : Nat) : 0 ≤ (clsTo g k).2 ∧ (clsTo g k).2 ≤ (k : Int) := by
  induction k with
  | zero => rw [clsTo_zero]; simp
  | succ k ih =>
    rw [clsTo_succ, clsStep]
    split
    · omega
    · show 0 ≤ _ + 1 ∧ _ + 1 ≤ _; omega
theorem classesOf_yes {g : List (List Int)} (h : groupOk g = true) : classesOf g = (clsTo g g.length).1 := by unfold classesOf; rw [if_pos h]
theorem classesOf_no {g : List (List Int)} (h : groupOk g = false) : classesOf g = [] := by unfold classesOf; rw [if_neg (by rw [h]; simp)]
theorem classesOf_len (g : List (List Int)) : (classesOf g).length ≤ 120 := by
  unfold classesOf
  split
  · rename_i h; rw [clsTo_len]; exact (grp_of h).le
  · simp
theorem inverse_at {p : List Int} {j : Nat} (hj : j < p.length) (h : (j : Int) ∈ p) : (inverse p).getD j 0 = (p.idxOf (j : Int) : Int) := by
  unfold inverse invTo
  simp [hj, h]
theorem inverse_len (p : List Int) : (inverse p).length = p.length := invTo_len p _
/-- The inverse lies in the group. -/
theorem Grp.inv_mem {g : List (List Int)} (h : Grp g) {p : List Int} (hp : p ∈ g) : inverse p ∈ g := by
  obtain ⟨r, hr, h1, h2⟩ := h.inv hp
  have hpl := h.len p hp
  have hrl := h.len r hr
  have hP := h.perm p hp
  have : inverse p = r := by
    refine list_ext0 (by rw [inverse_len, hpl, hrl]) fun j hj => ?_
    rw [inverse_len] at hj
    obtain ⟨i, hi, he⟩ := perm_onto hP hj
    have hm : (j : Int) ∈ p := by rw [← he]; exact getD_mem hi
    rw [inverse_at hj hm]
    have h3 := h2 i (by omega)
    rw [he, Int.toNat_natCast] at h3
    rw [h3]
    have h4 := List.Nodup.idxOf_getElem (permOk_nodup hP) i hi
    have h5 : p[i] = (j : Int) := by rw [← he]; simp [hi]
    rw [h5] at h4
    omega
  rw [this]; exact hr
theorem Grp.conj_mem {g : List (List Int)} (h : Grp g) {x p : List Int} (hx : x ∈ g) (hp : p ∈ g) : conj x p ∈ g := h.closed _ (h.closed x hx p hp) _ (h.inv_mem hx)
theorem Grp.cls_at {g : List (List Int)} (h : Grp g) {x p : List Int} (hx : x ∈ g) (hp : p ∈ g) : findIdx g (conj x p) = (clsAt g x p : Int) ∧ clsAt g x p < g.length := by
  rcases findIdx_range g (conj x p) with ⟨h0, h1, _⟩ | ⟨_, h1⟩
  · unfold clsAt; omega
  · exact absurd (h.conj_mem hx hp) h1
end Go.Proofs.Ytfanohebejemmaa
