/-
  PadZeros, of the program and of the reference.
-/
import Derived.Test.YtkibbomfpklghaaFmtFn
import Derived.Test.YtkibbomfpklghaaShelf
namespace Go.Proofs.Ytkibbomfpklghaa
open Go.RowKit Go.Deep

/-- k zeros ahead of a text. -/
def zeroed (k : Nat) (s : ByteArray) : ByteArray := strOfNums (List.replicate k 48) ++ s
def padZeros (s : ByteArray) (n : Int) : ByteArray := if n ≤ 2000 ∧ (s.size : Int) < n then zeroed (n - s.size).toNat s else s
theorem zeroed_size (k : Nat) (s : ByteArray) : (zeroed k s).size = k + s.size := by unfold zeroed; rw [ByteArray.size_append, strOfNums_size, List.length_replicate]
theorem zeroed_zero (s : ByteArray) : zeroed 0 s = s := by
  unfold zeroed
  apply ByteArray.ext
  simp [strOfNums, ByteArray.data_append]
theorem zeroed_succ (k : Nat) (s : ByteArray) : zeroed (k + 1) s = strOfNums [48] ++ zeroed k s := by
  unfold zeroed
  rw [← ByteArray.append_assoc, ← nums_app]
  rfl
theorem zero_lit : (⟨#[48]⟩ : ByteArray) = strOfNums [48] := rfl
theorem repeat_zero (k : Nat) : (⟨(Lib.repeatL (⟨#[48]⟩ : ByteArray).data.toList k).toArray⟩ : ByteArray) = strOfNums (List.replicate k 48) := by
  apply ByteArray.ext
  apply Array.toList_inj.1
  rw [strOfNums_data]
  simp only [List.map_replicate]
  show Lib.repeatL [48] k = _
  induction k with
  | zero => rfl
  | succ k ih =>
    rw [List.replicate_succ]
    show [48] ++ Lib.repeatL [48] k = _
    rw [ih]; rfl
theorem padZeros_same {s : ByteArray} {n : Int} (h : 2000 < n ∨ n ≤ (s.size : Int)) : padZeros s n = s := by unfold padZeros; rw [if_neg (by omega)]
theorem padZeros_more {s : ByteArray} {n : Nat} (h1 : n ≤ 2000) (h2 : s.size < n) : padZeros s (n : Int) = zeroed (n - s.size) s := by
  unfold padZeros
  rw [if_pos ⟨by omega, by omega⟩]
  congr 1; omega
theorem padZeros_size {s : ByteArray} {n : Int} (h : s.size ≤ 1048576) : (padZeros s n).size ≤ 1048576 := by
  unfold padZeros
  split
  · rw [zeroed_size]; omega
  · exact h

set_option maxHeartbeats 800000 in
theorem implPadZeros_any {w : World} (s : ByteArray) (n : Int) (hs : s.size ≤ 1048576) :
    Calls Try.prog 19 #[.string s, .int .i64 n] w fun e w' => e = .returned (.string (padZeros s n)) ∧ Below w.heap.size w w' := by
  by_cases h1 : n ≤ (s.size : Int)
  · have HC := Lib.hid (padZeros_same (s := s) (n := n) (.inr h1))
    go_enter Try.func19, Try.ntmps19
    go_wp2_with fail
    go_ret
    exact ⟨retS HC.out.symm, Below.refl _ _⟩
  by_cases h2 : 2000 < n
  · have HC := Lib.hid (padZeros_same (s := s) (n := n) (.inl h2))
    have z1 : decide (n ≤ (s.size : Int)) = false := decide_eq_false h1
    go_enter Try.func19, Try.ntmps19
    go_wp2_with fail
    go_ret
    exact ⟨retS HC.out.symm, Below.refl _ _⟩
  obtain ⟨N, rfl⟩ := Int.eq_ofNat_of_zero_le (show 0 ≤ n by omega)
  have HC := Lib.hid (padZeros_more (s := s) (n := N) (by omega) (by omega))
  obtain ⟨k, hk⟩ : ∃ k, k = N - s.size := ⟨_, rfl⟩
  have hk2 : k ≤ 2000 := by omega
  have hrep := Sh.strings_Repeat ⟨#[48]⟩ k w (by omega) (by show 1 * k ≤ _; omega)
  rw [repeat_zero] at hrep
  have HREP := Lib.hid hrep
  have hkn : (N : Int) - (s.size : Int) = (k : Int) := by omega
  have z1 : decide ((N : Int) ≤ (s.size : Int)) = false := decide_eq_false h1
  have z2 : decide ((2000 : Int) < (N : Int)) = false := decide_eq_false h2
  have HK : Hid (zeroed (N - s.size) s = strOfNums (List.replicate k 48) ++ s) := by rw [hk]; rfl
  obtain ⟨z, hz⟩ : ∃ z, z = strOfNums (List.replicate k 48) := ⟨_, rfl⟩
  have hzs : z.size + s.size ≤ 9223372036854775807 := by rw [hz, strOfNums_size, List.length_replicate]; omega
  rw [← hz] at HK HREP
  clear hrep hk hz
  go_enter Try.func19, Try.ntmps19
  go_wp2_with fail
  refine HREP.out.mono ?_
  rintro e w1 ⟨rfl, b⟩
  have HB := Lib.hid b
  clear b
  go_wp2_with fail
  go_ret
  exact ⟨retS (by rw [HC.out, HK.out]), HB.out⟩

set_option maxHeartbeats 800000 in
theorem specPadZeros_any {w : World} (s : ByteArray) (n : Int) (hs : s.size ≤ 1048576) :
    Calls Try.prog 18 #[.string s, .int .i64 n] w fun e w' => e = .returned (.string (padZeros s n)) ∧ Below w.heap.size w w' := by
  by_cases h2 : 2000 < n
  · have HC := Lib.hid (padZeros_same (s := s) (n := n) (.inl h2))
    go_enter Try.func18, Try.ntmps18
    go_wp2_with fail
    go_ret
    exact ⟨retS HC.out.symm, Below.refl _ _⟩
  have z2 : decide ((2000 : Int) < n) = false := decide_eq_false h2
  go_enter Try.func18, Try.ntmps18
  go_wp2_with fail
  go_loop [0] (fun v => ∃ k : Nat, v = .string (zeroed k s) ∧ (k = 0 ∨ (k : Int) + (s.size : Int) ≤ n)) (fun v => (n - (match v with | .string t => (t.size : Int) | _ => 0)).toNat)
  case atStart => exact ⟨0, by rw [zeroed_zero], .inl rfl⟩
  case round =>
    obtain ⟨k, rfl, hk⟩ := hrel
    obtain ⟨t, ht⟩ : ∃ t, t = zeroed k s := ⟨_, rfl⟩
    have hts : t.size = k + s.size := by rw [ht, zeroed_size]
    have HZ : Hid (zeroed (k + 1) s = ⟨#[48]⟩ ++ t) := by rw [Hid, zeroed_succ, ht]; rfl
    rw [← ht]
    have HT := Lib.hid ht
    clear ht
    by_cases hlt : (t.size : Int) < n
    · have hsz : (⟨#[48]⟩ : ByteArray).size + t.size ≤ 9223372036854775807 := by show 1 + t.size ≤ _; omega
      have hsz2 : 1 + t.size ≤ 9223372036854775807 := hsz
      have hm : (n - ((⟨#[48]⟩ ++ t : ByteArray).size : Int)).toNat < (n - (t.size : Int)).toNat := by
        rw [ByteArray.size_append]
        show (n - ((1 + t.size : Nat) : Int)).toNat < _
        omega
      go_wp2_with fail
      go_round
      case rel => exact ⟨k + 1, by rw [HZ.out], .inr (by omega)⟩
      case measure => exact hm
    · have HC : Hid (padZeros s n = t) := by
        rcases hk with rfl | hk
        · rw [Hid, HT.out, zeroed_zero, padZeros_same (.inr (by omega))]
        · by_cases hk0 : k = 0
          · subst hk0
            rw [Hid, HT.out, zeroed_zero, padZeros_same (.inr (by omega))]
          · obtain ⟨N, rfl⟩ := Int.eq_ofNat_of_zero_le (show 0 ≤ n by omega)
            rw [Hid, HT.out, padZeros_more (by omega) (by omega)]
            congr 1; omega
      go_wp2_with fail
      go_ret
      exact ⟨retS HC.out.symm, Below.refl _ _⟩
end Go.Proofs.Ytkibbomfpklghaa
