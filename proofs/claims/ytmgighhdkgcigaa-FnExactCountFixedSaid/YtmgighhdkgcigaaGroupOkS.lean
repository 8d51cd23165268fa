/-
  GroupOk of the reference.
-/
import Derived.Test.YtmgighhdkgcigaaOrd
import Derived.Test.YtmgighhdkgcigaaPerm1
namespace Go.Proofs.Ytmgighhdkgcigaa
open Go.RowKit Go.Deep

end Go.Proofs.Ytmgighhdkgcigaa
