/-
  indexOf of the program: the library's search by halves with slices.Compare.
-/
import Derived.Test.YtmgighhdkgcigaaOrd
namespace Go.Proofs.Ytmgighhdkgcigaa
open Go.RowKit Go.Deep

theorem ltL_iff {a b : List Int} : ltL a b = decide (cmpL a b < 0) := rfl

def BSPost (gs : List (List Int)) (p : List Int) (w : World) (e : Ending) (w' : World) : Prop := ∃ (i : Nat) (ok : Bool), e = .returned (.tuple #[.int .i64 i, .bool ok]) ∧ findIdx gs p = (if ok = true then (i : Int) else -1) ∧ w = w'

end Go.Proofs.Ytmgighhdkgcigaa
