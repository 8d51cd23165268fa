/-
  Join, of the program and of the reference.
-/
import Derived.Test.YtkibbomfpklghaaMemS
import Derived.Lib.Join
import Derived.Test.YtkibbomfpklghaaFmtFn
import Derived.Test.YtkibbomfpklghaaShelf
namespace Go.Proofs.Ytkibbomfpklghaa
open Go.RowKit Go.Deep

def joinB (l : List ByteArray) (sep : ByteArray) : ByteArray := ⟨(Lib.join (l.map (·.data.toList)) sep.data.toList).toArray⟩
def totB (l : List ByteArray) : Nat := (l.map ByteArray.size).sum
theorem joinB_nil (sep : ByteArray) : joinB [] sep = ByteArray.empty := rfl
theorem joinB_one (x sep : ByteArray) : joinB [x] sep = x := by
  unfold joinB
  apply ByteArray.ext
  apply Array.toList_inj.1
  simp [Lib.join_one]
theorem joinTail_snoc (sep : List UInt8) (r : List (List UInt8)) (y : List UInt8) : Lib.joinTail sep (r ++ [y]) = Lib.joinTail sep r ++ (sep ++ y) := by
  simp [Lib.joinTail]
theorem joinB_snoc {l : List ByteArray} (x sep : ByteArray) (h : l ≠ []) : joinB (l ++ [x]) sep = joinB l sep ++ sep ++ x := by
  cases l with
  | nil => exact absurd rfl h
  | cons y l =>
    unfold joinB
    apply ByteArray.ext
    apply Array.toList_inj.1
    rw [ByteArray.data_append, ByteArray.data_append, Array.toList_append, Array.toList_append]
    simp only [List.cons_append, List.map_cons, List.map_append, List.map_nil]
    rw [Lib.join_cons, Lib.join_cons, joinTail_snoc, List.append_assoc, List.append_assoc]
theorem bytes_size (b : ByteArray) : b.data.toList.length = b.size := by rw [Array.length_toList]; rfl
theorem joinB_size (l : List ByteArray) (sep : ByteArray) : (joinB l sep).size ≤ sep.size * l.length + totB l := by
  show (Lib.join (l.map (·.data.toList)) sep.data.toList).toArray.size ≤ _
  rw [List.size_toArray]
  cases l with
  | nil => simp [Lib.join_nil]
  | cons y l =>
    rw [List.map_cons, Lib.join_cons, List.length_append, Lib.joinTail_length, List.length_map, bytes_size, bytes_size]
    have : Lib.lens (l.map (·.data.toList)) = totB l := by
      unfold Lib.lens totB
      rw [List.map_map]
      congr 1
    rw [this, List.length_cons, Nat.mul_succ]
    show _ ≤ _ + (y.size + totB l)
    omega
theorem totB_take (l : List ByteArray) (k : Nat) : totB (l.take k) ≤ totB l := by
  induction l generalizing k with
  | nil => simp [totB]
  | cons x l ih =>
    cases k with
    | zero => simp [totB]
    | succ k =>
      have := ih k
      simp only [totB, List.take_succ_cons, List.map_cons, List.sum_cons] at this ⊢
      omega
theorem totB_snoc (l : List ByteArray) (x : ByteArray) : totB (l ++ [x]) = totB l + x.size := by simp [totB]
theorem takeB_succ {l : List ByteArray} {k : Nat} (hk : k < l.length) : l.take (k + 1) = l.take k ++ [l.getD k ByteArray.empty] := by
  rw [List.take_add_one, List.getElem?_eq_getElem hk]; simp [hk]

set_option maxHeartbeats 800000 in
theorem implJoin_any {w : World} {a : Value} {l : List ByteArray} (sep : ByteArray) (ha : RSS w a l) (hl : l.length ≤ 1048576) (hsz : sep.size * l.length + totB l ≤ 140737488355328) :
    Calls Try.prog 16 #[a, .string sep] w fun e w' => e = .returned (.string (joinB l sep)) ∧ Below w.heap.size w w' := by
  obtain ⟨A, c, rfl, -, hx⟩ := ha
  by_cases h0 : l.length = 0
  · obtain rfl : l = [] := List.eq_nil_of_length_eq_zero h0
    clear hx
    have hj := Sh.strings_Join_none A c sep w
    have HJ := Lib.hid hj
    clear hj
    rw [List.length_nil]
    go_enter Try.func16, Try.ntmps16
    go_wp2_with fail
    refine HJ.out.mono ?_
    rintro e w1 ⟨rfl, rfl⟩
    go_wp2_with fail
    go_ret
    exact ⟨rfl, Below.refl _ _⟩
  · obtain ⟨hc, b, off, rfl, hb, hcell⟩ := hx (by omega)
    have hj := Sh.strings_Join b off c l sep w (fun j x hx => by
      have hjl : j < l.length := by
        rcases Nat.lt_or_ge j l.length with h | h
        · exact h
        · rw [List.getElem?_eq_none h] at hx; cases hx
      rw [hcell j hjl]
      rw [List.getElem?_eq_getElem hjl] at hx
      simp only [Option.some.injEq] at hx
      simp [hjl, hx]) hb (by omega) hc (by
        have := joinB_size l sep
        have e : (joinB l sep).size = (Lib.join (l.map (·.data.toList)) sep.data.toList).length := by
          show (Lib.join (l.map (·.data.toList)) sep.data.toList).toArray.size = _
          rw [List.size_toArray]
        omega)
    have HJ : Hid (Calls Try.prog 48 #[.slice (some ⟨b, off, none⟩) l.length c, .string sep] w fun e w' => e = .returned (.string (joinB l sep)) ∧ Below w.heap.size w w') := hj
    clear hj hcell h0
    go_enter Try.func16, Try.ntmps16
    go_wp2_with fail
    refine HJ.out.mono ?_
    rintro e w1 ⟨rfl, b1⟩
    have HB := Lib.hid b1
    clear b1
    go_wp2_with fail
    go_ret
    exact ⟨rfl, HB.out⟩

set_option maxHeartbeats 800000 in
theorem specJoin_any {w : World} {a : Value} {l : List ByteArray} (sep : ByteArray) (ha : RSS w a l) (hl : l.length ≤ 1048576) (hsz : sep.size * l.length + totB l ≤ 140737488355328) :
    Calls Try.prog 14 #[a, .string sep] w fun e w' => e = .returned (.string (joinB l sep)) ∧ Below w.heap.size w w' := by
  obtain ⟨A, c, rfl, -, hx⟩ := ha
  obtain ⟨n, hn⟩ : ∃ n, n = l.length := ⟨_, rfl⟩
  rw [← hn] at hx hl hsz ⊢
  have HL := Lib.hid hn
  have HX := Lib.hid hx
  have HS := Lib.hid hsz
  clear hn hx hsz
  go_enter Try.func14, Try.ntmps14
  go_wp2_with fail
  go_loop [5, 10] (fun s i => ∃ k : Nat, k ≤ n ∧ i = .int .i64 k ∧ s = .string (joinB (l.take k) sep)) (fun _ i => n - (intOf i).toNat)
  case atStart => exact ⟨0, Nat.zero_le _, rfl, by rw [List.take_zero, joinB_nil]; rfl⟩
  case round =>
    obtain ⟨k, hk, rfl, rfl⟩ := hrel
    obtain ⟨s, hs⟩ : ∃ s, s = joinB (l.take k) sep := ⟨_, rfl⟩
    rw [← hs]
    by_cases hlt : k < n
    · have hkl : k < l.length := by have := HL.out; omega
      obtain ⟨-, b, off, rfl, hb, hcell⟩ := HX.out (by omega)
      have e1 := hcell k hlt
      have htk := takeB_succ hkl
      obtain ⟨x, hx⟩ : ∃ x, x = l.getD k ByteArray.empty := ⟨_, rfl⟩
      rw [← hx] at e1 htk
      clear hcell
      have hsz1 := joinB_size (l.take (k + 1)) sep
      have hsz2 := totB_take l (k + 1)
      have hsz3 : sep.size * (l.take (k + 1)).length ≤ sep.size * n := Nat.mul_le_mul_left _ (by rw [List.length_take]; omega)
      have hsz4 := HS.out
      have hszk : (joinB (l.take (k + 1)) sep).size ≤ 140737488355328 := by omega
      by_cases h0 : 0 < k
      · have hne : l.take k ≠ [] := fun h => by
          have := congrArg List.length h
          rw [List.length_take, List.length_nil] at this; omega
        have hjn : joinB (l.take (k + 1)) sep = s ++ sep ++ x := by rw [htk, joinB_snoc x sep hne, ← hs]
        rw [hjn, ByteArray.size_append, ByteArray.size_append] at hszk
        have g1 : s.size + sep.size ≤ 9223372036854775807 := by omega
        have g2 : (s ++ sep).size + x.size ≤ 9223372036854775807 := by rw [ByteArray.size_append]; omega
        have HJ := Lib.hid hjn
        have z0 : decide ((0 : Int) < (k : Int)) = true := decide_eq_true (by omega)
        clear hsz1 hsz2 hsz3 hsz4 hjn htk hx hs hne hszk
        go_wp2_with fail
        go_round
        case rel => exact ⟨k + 1, by omega, by go_num, by rw [HJ.out]⟩
        case measure => simp [intOf]; omega
      · obtain rfl : k = 0 := by omega
        rw [Nat.add_zero] at e1
        have hs0 : s = ByteArray.empty := by rw [hs, List.take_zero, joinB_nil]
        have hjn : joinB (l.take (0 + 1)) sep = s ++ x := by
          rw [htk, List.take_zero, List.nil_append, joinB_one, hs0]
          apply ByteArray.ext; simp
        rw [hjn, ByteArray.size_append] at hszk
        have g1 : s.size + x.size ≤ 9223372036854775807 := by omega
        have HJ := Lib.hid hjn
        clear hsz1 hsz2 hsz3 hsz4 hjn htk hx hs hs0 hszk
        go_wp2_with fail
        go_round
        case rel => exact ⟨1, by omega, by go_num, by rw [← HJ.out]⟩
        case measure => simp [intOf]; omega
    · have hf : s = joinB l sep := by rw [hs, List.take_of_length_le (by have := HL.out; omega)]
      have HF := Lib.hid hf
      clear hs hf
      go_wp2_with fail
      go_ret
      exact ⟨retS HF.out, Below.refl _ _⟩
end Go.Proofs.Ytkibbomfpklghaa
