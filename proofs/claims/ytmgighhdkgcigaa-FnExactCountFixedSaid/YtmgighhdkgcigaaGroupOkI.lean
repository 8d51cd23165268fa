/-
  GroupOk of the program.
-/
import Derived.Test.YtmgighhdkgcigaaIndexOf
import Derived.Test.YtmgighhdkgcigaaPerm1
namespace Go.Proofs.Ytmgighhdkgcigaa
open Go.RowKit Go.Deep

end Go.Proofs.Ytmgighhdkgcigaa
