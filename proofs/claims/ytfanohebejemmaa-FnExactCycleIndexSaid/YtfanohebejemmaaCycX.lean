/-
  Words for the law on CycleIndex; how long its result is.
-/
import Derived.Test.YtfanohebejemmaaCycI
import Derived.Test.YtfanohebejemmaaCycS
namespace Go.Proofs.Ytfanohebejemmaa
open Go.RowKit Go.Deep

/-- A slice of structs that the call owns. -/
def OTT (w : World) (lo : Nat) (v : Value) (ts : List (List Int × Int)) : Prop := OTTh w lo w.heap.size v ts
theorem OTT.step {w w' : World} {lo : Nat} {v : Value} {ts : List (List Int × Int)} (h : OTT w lo v ts) (b : Below w.heap.size w w') : OTT w' lo v ts := OTTh.wide (OTTh.step h b)
theorem OTT.above {w w' : World} {lo l h' : Nat} {v : Value} {ts : List (List Int × Int)} (h : OTT w lo v ts) (t : Turned l h' w w') (hle : h' ≤ lo) : OTT w' lo v ts := OTTh.wide (OTTh.above h t hle)
theorem OTT.bound {w : World} {lo : Nat} {v : Value} {ts : List (List Int × Int)} (h : OTT w lo v ts) : ∀ g, v.ownBlock = some g → g < w.heap.size := fun g hg => by
  obtain ⟨l, h1, _⟩ := h
  exact (h1.lt g hg).2
theorem totT_le {ts : List (List Int × Int)} {m : Nat} (h : ∀ t ∈ ts, t.1.length ≤ m) : totT ts ≤ ts.length * (m + 1) := by
  induction ts with
  | nil => simp [totT]
  | cons t l ih =>
    have h1 := h t (by simp)
    have h2 := ih (fun y hy => h y (by simp [hy]))
    simp only [totT, List.map_cons, List.sum_cons, List.length_cons, Nat.succ_mul] at *
    omega
theorem cycleIndex_total (g : List (List Int)) : totT (cycleIndex g) ≤ 1320 := by
  cases hk : groupOk g with
  | false => rw [cycleIndex_no hk]; simp [totT]
  | true =>
    have hg := grp_of hk
    rw [cycleIndex_yes hk]
    have h1 := totT_le (ts := idxTo g g.length) (m := 10) fun t ht => by
      have := idx_types hg (Nat.le_refl _) t ht
      have := hg.deg_le
      omega
    have h2 := idx_len g g.length
    have := hg.le
    omega
end Go.Proofs.Ytfanohebejemmaa
