/-
  Comparing lists and searching in an ascending list of lists, of the library, the program and the reference.
-/
import Derived.Test.YtmgighhdkgcigaaOrdFn
import Derived.Test.YtmgighhdkgcigaaMem2
import Derived.Test.YtmgighhdkgcigaaSame
namespace Go.Proofs.Ytmgighhdkgcigaa
open Go.RowKit Go.Deep

def cmpI (x y : Int) : Int := if x < y then -1 else if y < x then 1 else 0

theorem RII.at {w : World} {b off k n : Nat} {gs : List (List Int)} (hx : ∀ k, k < n → ∃ u, w.cell? ⟨b, off + k, none⟩ = some u ∧ RI w u (gs.getD k [])) (hk : k < n) : ∃ A c, w.cell? ⟨b, off + k, none⟩ = some (.slice A (gs.getD k []).length c) ∧ RI w (.slice A (gs.getD k []).length c) (gs.getD k []) := by
  obtain ⟨u, hc, hr⟩ := hx k hk
  obtain ⟨A, c, rfl⟩ := hr.shape
  exact ⟨A, c, hc, hr⟩

/-- What a search by halves knows. -/
def Halves (gs : List (List Int)) (p : List Int) (i j : Nat) : Prop := (∀ k, k < i → k < gs.length → ltL (gs.getD k []) p = true) ∧ ∀ k, j ≤ k → k < gs.length → ltL (gs.getD k []) p = false
theorem Halves.start (gs : List (List Int)) (p : List Int) : Halves gs p 0 gs.length := ⟨fun k h => by omega, fun k h h' => by omega⟩
theorem Halves.up {gs : List (List Int)} {p : List Int} {i j h : Nat} (hh : Halves gs p i j) (ha : Asc gs) (hl : h < gs.length) (hlt : ltL (gs.getD h []) p = true) : Halves gs p (h + 1) j :=
  ⟨fun k hk hkl => by
    rcases Nat.lt_or_ge k h with h1 | h1
    · exact ltL_trans (ha k h h1 hl) hlt
    · obtain rfl : k = h := by omega
      exact hlt, hh.2⟩
theorem Halves.down {gs : List (List Int)} {p : List Int} {i j h : Nat} (hh : Halves gs p i j) (ha : Asc gs) (hlt : ltL (gs.getD h []) p = false) : Halves gs p i h :=
  ⟨hh.1, fun k hk hkl => by
    rcases Nat.lt_or_ge h k with h1 | h1
    · cases e : ltL (gs.getD k []) p with
      | false => rfl
      | true => rw [ltL_trans (ha h k h1 hkl) e] at hlt; cases hlt
    · obtain rfl : k = h := by omega
      exact hlt⟩

end Go.Proofs.Ytmgighhdkgcigaa
