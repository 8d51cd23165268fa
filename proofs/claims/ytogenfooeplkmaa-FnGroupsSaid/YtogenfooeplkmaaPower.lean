/-
  PowerPerm, of the program and of the reference.
-/
import Derived.Test.YtogenfooeplkmaaPerm1
import Derived.Test.YtogenfooeplkmaaActFn
namespace Go.Proofs.Ytogenfooeplkmaa
open Go.RowKit Go.Deep

end Go.Proofs.Ytogenfooeplkmaa
