/-
  SplitLines, of the program and of the reference.
-/
import Derived.Test.YtkibbomfpklghaaSplit
namespace Go.Proofs.Ytkibbomfpklghaa
open Go.RowKit Go.Deep

def lineB : ByteArray := ⟨#[10]⟩
def splitLines (s : ByteArray) : List ByteArray := if (splitAny s lineB).getLast? = some ⟨#[]⟩ then (splitAny s lineB).dropLast else splitAny s lineB
theorem splitLines_len (s : ByteArray) : (splitLines s).length ≤ s.size + 1 := by
  have := splitAny_len s lineB
  unfold splitLines
  split
  · rw [List.length_dropLast]; omega
  · exact this
theorem splitLines_cut {s : ByteArray} {l : List ByteArray} (h : splitAny s lineB = l ++ [⟨#[]⟩]) : splitLines s = l := by
  unfold splitLines
  rw [h, if_pos (by simp), List.dropLast_concat]
theorem splitLines_all {s x : ByteArray} {l : List ByteArray} (h : splitAny s lineB = l ++ [x]) (hx : x ≠ ⟨#[]⟩) : splitLines s = l ++ [x] := by
  unfold splitLines
  rw [h, if_neg (by simpa using hx)]
theorem beq_bytesL {a b : ByteArray} : (a.toList == b.toList) = true ↔ a = b := by
  rw [ByteArray.toList_eq, ByteArray.toList_eq, beq_iff_eq]
  exact ⟨fun h => ByteArray.ext (Array.toList_inj.1 h), fun h => by rw [h]⟩
theorem OSS.init {w : World} {lo g n c : Nat} {xs : List ByteArray} {x : ByteArray} (h : OSS w lo (.slice (some ⟨g, 0, none⟩) (n + 1) c) (xs ++ [x])) (hn : xs.length = n) : OSS w lo (.slice (some ⟨g, 0, none⟩) n c) xs := by
  subst hn
  rcases h.2 with ⟨hv, _⟩ | ⟨g', cap, cur, hv, hg, hh, hnc, hm, hcs, ht⟩
  · simp at hv
  · simp only [Value.slice.injEq, Option.some.injEq, Addr.mk.injEq, and_true] at hv
    obtain ⟨hg', -, hcc⟩ := hv
    subst hg' hcc
    refine ⟨by simp [strs], .inr ⟨_, _, cur, rfl, hg, hh, by simp at hnc; omega, hm, hcs, ?_⟩⟩
    have e : (cur.toList.take ((xs ++ [x]).length * 1)).take xs.length = (strs (xs ++ [x])).take xs.length := by rw [ht]
    rw [List.take_take, show min xs.length ((xs ++ [x]).length * 1) = xs.length from by simp] at e
    rw [Nat.mul_one, e]
    simp [strs]

set_option maxHeartbeats 800000 in
theorem implSplitLines_any {w : World} (s : ByteArray) (hs : s.size ≤ 1048576) :
    Calls Try.prog 38 #[.string s] w fun e w' => ∃ v, e = .returned v ∧ OSS w' w.heap.size v (splitLines s) ∧ Below w.heap.size w w' := by
  obtain ⟨l, x, hl⟩ : ∃ l x, splitAny s lineB = l ++ [x] := ⟨_, _, rfl⟩
  have hlen := splitAny_len s lineB
  have HSP : Hid (Calls Try.prog 36 #[.string s, .string ⟨#[10]⟩] w fun e w' => ∃ v, e = .returned v ∧ OSS w' w.heap.size v (l ++ [x]) ∧ Below w.heap.size w w') := by
    rw [← hl]; exact implSplitAny_any s lineB hs
  rw [hl, List.length_append, List.length_cons, List.length_nil] at hlen
  obtain ⟨n, hn⟩ : ∃ n, n = l.length := ⟨_, rfl⟩
  have hn2 : n ≤ 1048576 := by omega
  have HL := Lib.hid hl
  have HN := Lib.hid hn
  clear hl hlen hn
  go_enter Try.func38, Try.ntmps38
  go_wp2_with fail
  refine HSP.out.mono ?_
  rintro e w1 ⟨v, rfl, o, b⟩
  obtain ⟨A, c, rfl, h3⟩ := OSS.form o
  rw [List.length_append, List.length_cons, List.length_nil, ← HN.out] at h3 o ⊢
  obtain ⟨g, rfl, -⟩ := h3 (by omega)
  have hlt : (l ++ [x]).length = n + 1 := by rw [List.length_append, ← HN.out]; rfl
  have e1 := OSS.cell (n := n + 1) o hlt n (by omega)
  rw [show (l ++ [x]).getD n ByteArray.empty = x from by rw [HN.out]; simp] at e1
  have HO : Hid (OSS w1 w.heap.size (.slice (some ⟨g, 0, none⟩) (n + 1) c) (l ++ [x]) ∧ Below w.heap.size w w1) := ⟨o, b⟩
  have hc : n + 1 ≤ c := by
    rcases o.2 with ⟨hv, _⟩ | ⟨g', cap, cur, hv, _, _, hnc, _⟩
    · simp at hv
    · simp only [Value.slice.injEq, Option.some.injEq, Addr.mk.injEq, and_true] at hv
      rw [hlt] at hnc; omega
  have hc2 : c ≤ 9223372036854775807 := by
    rcases o.2 with ⟨hv, _⟩ | ⟨g', cap, cur, hv, _, _, _, hm, _⟩
    · simp at hv
    · simp only [Value.slice.injEq, Option.some.injEq, Addr.mk.injEq, and_true] at hv
      unfold maxLen at hm; omega
  have hi : ((n + 1 : Nat) : Int) - 1 = (n : Int) := by omega
  clear o b h3 hlt
  by_cases hx : x = ⟨#[]⟩
  · have hb : x.toList.isEmpty = true := by rw [hx, ByteArray.toList_eq]; rfl
    have HF : Hid (OSS w1 w.heap.size (.slice (some ⟨g, 0, none⟩) n c) (splitLines s)) := by
      have h := HL.out
      rw [hx] at h
      rw [splitLines_cut h]
      exact OSS.init HO.out.1 HN.out.symm
    clear hx
    go_wp2_with fail
    go_ret
    exact ⟨_, rfl, HF.out, HO.out.2⟩
  · have hb : x.toList.isEmpty = false := by
      rw [Bool.eq_false_iff]
      intro h
      refine hx (beq_bytesL.1 ?_)
      rw [List.isEmpty_iff.1 h, ByteArray.toList_eq]
      rfl
    have HF : Hid (OSS w1 w.heap.size (.slice (some ⟨g, 0, none⟩) (n + 1) c) (splitLines s)) := by
      rw [splitLines_all HL.out hx]
      exact HO.out.1
    clear hx
    go_wp2_with fail
    go_ret
    exact ⟨_, rfl, HF.out, HO.out.2⟩

end Go.Proofs.Ytkibbomfpklghaa
