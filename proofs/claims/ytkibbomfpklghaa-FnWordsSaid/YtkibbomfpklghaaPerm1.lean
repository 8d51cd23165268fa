/-
  IdentityPerm, the composing helpers and ComposePerm, InversePerm, of the program and of the reference.
-/
import Derived.Test.YtkibbomfpklghaaPermOk
namespace Go.Proofs.Ytkibbomfpklghaa
open Go.RowKit Go.Deep

/-- Each element of p is an index of q. -/
def Into (p q : List Int) : Prop := ∀ x ∈ p, 0 ≤ x ∧ x < (q.length : Int)

end Go.Proofs.Ytkibbomfpklghaa
