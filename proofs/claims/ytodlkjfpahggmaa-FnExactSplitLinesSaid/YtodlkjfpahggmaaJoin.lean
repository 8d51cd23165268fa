/-
  Join, of the program and of the reference.
-/
import Derived.Test.YtodlkjfpahggmaaMemS
import Derived.Lib.Join
import Derived.Test.YtodlkjfpahggmaaFmtFn
import Derived.Test.YtodlkjfpahggmaaShelf
namespace Go.Proofs.Ytodlkjfpahggmaa
open Go.RowKit Go.Deep

def joinB (l : List ByteArray) (sep : ByteArray) : ByteArray := ⟨(Lib.join (l.map (·.data.toList)) sep.data.toList).toArray⟩
def totB (l : List ByteArray) : Nat := (l.map ByteArray.size).sum
theorem joinB_nil (sep : ByteArray) : joinB [] sep = ByteArray.empty := rfl
theorem joinB_one (x sep : ByteArray) : joinB [x] sep = x := by
  unfold joinB
  apply ByteArray.ext
  apply Array.toList_inj.1
  simp [Lib.join_one]
theorem joinTail_snoc (sep : List UInt8) (r : List (List UInt8)) (y : List UInt8) : Lib.joinTail sep (r ++ [y]) = Lib.joinTail sep r ++ (sep ++ y) := by
  simp [Lib.joinTail]
theorem joinB_snoc {l : List ByteArray} (x sep : ByteArray) (h : l ≠ []) : joinB (l ++ [x]) sep = joinB l sep ++ sep ++ x := by
  cases l with
  | nil => exact absurd rfl h
  | cons y l =>
    unfold joinB
    apply ByteArray.ext
    apply Array.toList_inj.1
    rw [ByteArray.data_append, ByteArray.data_append, Array.toList_append, Array.toList_append]
    simp only [List.cons_append, List.map_cons, List.map_append, List.map_nil]
    rw [Lib.join_cons, Lib.join_cons, joinTail_snoc, List.append_assoc, List.append_assoc]
theorem bytes_size (b : ByteArray) : b.data.toList.length = b.size := by rw [Array.length_toList]; rfl
theorem joinB_size (l : List ByteArray) (sep : ByteArray) : (joinB l sep).size ≤ sep.size * l.length + totB l := by
  show (Lib.join (l.map (·.data.toList)) sep.data.toList).toArray.size ≤ _
  rw [List.size_toArray]
  cases l with
  | nil => simp [Lib.join_nil]
  | cons y l =>
    rw [List.map_cons, Lib.join_cons, List.length_append, Lib.joinTail_length, List.length_map, bytes_size, bytes_size]
    have : Lib.lens (l.map (·.data.toList)) = totB l := by
      unfold Lib.lens totB
      rw [List.map_map]
      congr 1
    rw [this, List.length_cons, Nat.mul_succ]
    show _ ≤ _ + (y.size + totB l)
    omega
theorem totB_take (l : List ByteArray) (k : Nat) : totB (l.take k) ≤ totB l := by
  induction l generalizing k with
  | nil => simp [totB]
  | cons x l ih =>
    cases k with
    | zero => simp [totB]
    | succ k =>
      have := ih k
      simp only [totB, List.take_succ_cons, List.map_cons, List.sum_cons] at this ⊢
      omega
theorem totB_snoc (l : List ByteArray) (x : ByteArray) : totB (l ++ [x]) = totB l + x.size := by simp [totB]
theorem takeB_succ {l : List ByteArray} {k : Nat} (hk : k < l.length) : l.take (k + 1) = l.take k ++ [l.getD k ByteArray.empty] := by
  rw [List.take_add_one, List.getElem?_eq_getElem hk]; simp [hk]

end Go.Proofs.Ytodlkjfpahggmaa
