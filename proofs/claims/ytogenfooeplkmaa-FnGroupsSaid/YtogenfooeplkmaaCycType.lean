/-
  CycleType, of the program and of the reference.
-/
import Derived.Test.YtogenfooeplkmaaCyc
import Derived.Test.YtogenfooeplkmaaActFn
namespace Go.Proofs.Ytogenfooeplkmaa
open Go.RowKit Go.Deep

theorem takeS_succ' {xss : List (List Int)} {k : Nat} (hk : k < xss.length) : xss.take (k + 1) = xss.take k ++ [xss.getD k []] := by
  rw [List.take_add_one, List.getElem?_eq_getElem hk]; simp [hk]
theorem Turned.setCell {w : World} {g k : Nat} (_hg : g < w.heap.size) (u : Value) : Turned g (g + 1) w (w.setCell ⟨g, k, none⟩ u) :=
  ⟨rfl, rfl, rfl, by simp, fun i hi => Below.heap_setCell _ _ _ _ (by simp; omega)⟩
theorem cast_row {w : World} {lo n : Nat} {v : Value} {xs : List Int} (h : w.ownsRow lo 3 1 v xs.length (ints xs)) (_hn : xs.length = n) : OI w lo v xs := h

end Go.Proofs.Ytogenfooeplkmaa
