/-
  slices.Sort of a row of integers that the call owns.
-/
import Derived.Test.YtfanohebejemmaaMem
import Derived.Test.YtfanohebejemmaaShelf
import Derived.Sort.OwnSortedInts
namespace Go.Proofs.Ytfanohebejemmaa
open Go.RowKit Go.Deep

def sortI (xs : List Int) : List Int := xs.mergeSort fun x y => decide (x ≤ y)
theorem sortI_len (xs : List Int) : (sortI xs).length = xs.length := by unfold sortI; simp

theorem sortInts_any {w : World} {lo g n c : Nat} {xs : List Int} (h : OI w lo (.slice (some ⟨g, 0, none⟩) n c) xs) (hn : xs.length = n) (hsz : xs.length ≤ 1099511627776) :
    Calls Try.prog 74 #[.slice (some ⟨g, 0, none⟩) n c] w fun e w' => e = .returned (.tuple #[]) ∧ OI w' lo (.slice (some ⟨g, 0, none⟩) n c) (sortI xs) ∧ w.grownBy w' (some g) := by
  subst hn
  have hlt := (h.lt g rfl).2
  obtain ⟨h1, h2⟩ := h
  rcases h2 with ⟨h0, _⟩ | ⟨g', cap, cur, hv, hg, hh, hnc, hm, hcs, ht⟩
  · cases h0
  cases hv
  rw [Nat.mul_one] at ht
  have hs := Sh.slices_Sort_int g 0 c xs w (holds_of_blockI hh ht) hlt (by omega)
  refine hs.mono ?_
  rintro e w' ⟨rfl, k, os, rfl⟩
  refine ⟨rfl, ?_, grownBy_sortedI _⟩
  have := ownsRow_sortedI (n := k) (os := os) (ts := sortI xs) (sortI_len xs) hg hh hnc hm hcs
  unfold OI
  rw [sortI_len]
  exact this
end Go.Proofs.Ytfanohebejemmaa
