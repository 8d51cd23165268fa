/-
  IsDigits and IsName, of the program and of the reference.
-/
import Derived.Test.YtkibbomfpklghaaIn
namespace Go.Proofs.Ytkibbomfpklghaa
open Go.RowKit

def digC (c : Nat) : Bool := decide (48 ≤ c ∧ c ≤ 57)
def lowC (c : Nat) : Bool := decide (97 ≤ c ∧ c ≤ 122)
/-- At least one byte, each of them from 0 to 9. -/
def isDigits (s : ByteArray) : Bool := decide (0 < s.size ∧ ∀ j (h : j < s.size), digC s[j].toNat = true)

theorem isDigits_no {s : ByteArray} {k : Nat} (h : k < s.size) (hc : digC s[k].toNat = false) : isDigits s = false := by
  unfold isDigits
  exact decide_eq_false fun ⟨_, h2⟩ => by rw [h2 k h] at hc; cases hc
theorem digC_yes {c : Nat} (h : digC c = true) : (48 : Int) ≤ (c : Int) ∧ (c : Int) ≤ 57 := by
  unfold digC at h; have := of_decide_eq_true h; omega
theorem digC_no {c : Nat} (h : digC c = false) : (c : Int) < 48 ∨ 57 < (c : Int) := by
  unfold digC at h; have := of_decide_eq_false h; omega

set_option maxHeartbeats 400000 in
theorem specIsDigits_any (s : ByteArray) (w : World) (hs : s.size ≤ maxLen) :
    Calls Try.prog 44 #[.string s] w fun e w' => e = .returned (.bool (isDigits s)) ∧ w = w' := by
  unfold maxLen at hs
  go_enter Try.func44, Try.ntmps44
  go_wp2
  go_loop [3] (fun i => ∃ k : Nat, k ≤ s.size ∧ i = .int .i64 k ∧ Hid (∀ j (h : j < s.size), j < k → digC s[j].toNat = true)) (fun i => s.size - (intOf i).toNat)
  case atStart => exact ⟨0, Nat.zero_le _, rfl, fun j h h0 => absurd h0 (Nat.not_lt_zero _)⟩
  case round =>
    obtain ⟨k, hk, rfl, HR⟩ := hrel
    by_cases hlt : k < s.size
    · cases hd : digC s[k].toNat with
      | false =>
        have hno := isDigits_no hlt hd
        have HN := Lib.hid hno
        have hb := digC_no hd
        clear hno hd
        rcases hb with hb | hb
        all_goals
          go_wp2
          go_ret
          exact ⟨retB HN.out.symm, rfl⟩
      | true =>
        obtain ⟨h1, h2⟩ := digC_yes hd
        have HD := Lib.hid hd
        clear hd
        go_wp2
        go_round
        case rel => exact ⟨k + 1, by omega, by go_num, fun j h h0 => by
          rcases Nat.lt_or_ge j k with hj | hj
          · exact HR.out j h hj
          · obtain rfl : j = k := by omega
            exact HD.out⟩
        case measure => simp [intOf]; omega
    · go_wp2
      go_ret
      refine ⟨retB ?_, rfl⟩
      unfold isDigits
      have hH := HR.out
      rw [decide_eq_decide]
      constructor
      · intro h; exact ⟨by omega, fun j hj => hH j hj (by omega)⟩
      · intro h; have := h.1; omega

set_option maxHeartbeats 400000 in
theorem implIsDigits_any (s : ByteArray) (w : World) (hs : s.size ≤ maxLen) :
    Calls Try.prog 47 #[.string s] w fun e w' => e = .returned (.bool (isDigits s)) ∧ w = w' := by
  unfold maxLen at hs
  go_enter Try.func47, Try.ntmps47
  go_wp2
  go_loop [6] (fun i => ∃ k : Nat, k ≤ s.size ∧ i = .int .i64 k ∧ Hid (∀ j (h : j < s.size), j < k → digC s[j].toNat = true)) (fun i => s.size - (intOf i).toNat)
  case atStart => exact ⟨0, Nat.zero_le _, rfl, fun j h h0 => absurd h0 (Nat.not_lt_zero _)⟩
  case round =>
    obtain ⟨k, hk, rfl, HR⟩ := hrel
    by_cases hlt : k < s.size
    · cases hd : digC s[k].toNat with
      | false =>
        have hno := isDigits_no hlt hd
        have HN := Lib.hid hno
        have hb := digC_no hd
        clear hno hd
        rcases hb with hb | hb
        all_goals
          go_wp2
          go_ret
          exact ⟨retB HN.out.symm, rfl⟩
      | true =>
        obtain ⟨h1, h2⟩ := digC_yes hd
        have HD := Lib.hid hd
        clear hd
        go_wp2
        go_round
        case rel => exact ⟨k + 1, by omega, by go_num, fun j h h0 => by
          rcases Nat.lt_or_ge j k with hj | hj
          · exact HR.out j h hj
          · obtain rfl : j = k := by omega
            exact HD.out⟩
        case measure => simp [intOf]; omega
    · go_wp2
      go_ret
      refine ⟨retB ?_, rfl⟩
      unfold isDigits
      have hH := HR.out
      rw [ByteArray.toList_eq]
      have hz : s.size = s.data.toList.length := by simp
      rw [Bool.eq_iff_iff, Bool.not_eq_true', decide_eq_true_iff, List.isEmpty_eq_false_iff, ← List.length_pos_iff, ← hz]
      constructor
      · intro h; exact ⟨by omega, fun j hj => hH j hj (by omega)⟩
      · intro h; have := h.1; omega

/-- A byte of a name at a place that is not the first. -/
def nameC (c : Nat) : Bool := lowC c || digC c
/-- From 1 to 8 bytes, the first from a to z, the others from a to z or 0 to 9. -/
def isName (s : ByteArray) : Bool := decide (1 ≤ s.size ∧ s.size ≤ 8 ∧ (∀ h : 0 < s.size, lowC (s[0]'h).toNat = true) ∧ ∀ j (h : j < s.size), nameC s[j].toNat = true)

theorem lowC_yes {c : Nat} (h : lowC c = true) : (97 : Int) ≤ (c : Int) ∧ (c : Int) ≤ 122 := by
  unfold lowC at h; have := of_decide_eq_true h; omega
theorem lowC_no {c : Nat} (h : lowC c = false) : (c : Int) < 97 ∨ 122 < (c : Int) := by
  unfold lowC at h; have := of_decide_eq_false h; omega
theorem isName_no {s : ByteArray} {k : Nat} (h : k < s.size) (hc : nameC s[k].toNat = false) : isName s = false := by
  unfold isName
  exact decide_eq_false fun ⟨_, _, _, h2⟩ => by rw [h2 k h] at hc; cases hc
theorem isName_first {s : ByteArray} (h : 0 < s.size) (hc : lowC s[0].toNat = false) : isName s = false := by
  unfold isName
  exact decide_eq_false fun ⟨_, _, h2, _⟩ => by rw [h2 h] at hc; cases hc
theorem isName_size {s : ByteArray} (h : s.size < 1 ∨ 8 < s.size) : isName s = false := by
  unfold isName
  exact decide_eq_false fun ⟨h1, h2, _⟩ => by omega
theorem isName_yes {s : ByteArray} (h1 : 1 ≤ s.size) (h2 : s.size ≤ 8) (h0 : ∀ h : 0 < s.size, lowC (s[0]'h).toNat = true) (h : ∀ j (h : j < s.size), nameC s[j].toNat = true) : isName s = true := by
  unfold isName
  exact decide_eq_true ⟨h1, h2, h0, h⟩

/-- The ways that a byte can be judged by IsName. -/
theorem nameC_cases (c : Nat) : (nameC c = true ∧ lowC c = true ∧ (97 : Int) ≤ (c : Int) ∧ (c : Int) ≤ 122) ∨ (nameC c = true ∧ lowC c = false ∧ (c : Int) < 97 ∧ (48 : Int) ≤ (c : Int) ∧ (c : Int) ≤ 57) ∨
    (nameC c = false ∧ lowC c = false ∧ ((c : Int) < 48 ∨ (57 < (c : Int) ∧ (c : Int) < 97) ∨ 122 < (c : Int))) := by
  unfold nameC lowC digC
  by_cases h1 : 97 ≤ c ∧ c ≤ 122
  · exact .inl ⟨by simp [h1], by simp [h1], by omega, by omega⟩
  · by_cases h2 : 48 ≤ c ∧ c ≤ 57
    · exact .inr (.inl ⟨by simp [h2], by simp [h1], by omega, by omega, by omega⟩)
    · exact .inr (.inr ⟨by simp [h1, h2], by simp [h1], by omega⟩)

set_option maxHeartbeats 800000 in
theorem implIsName_any (s : ByteArray) (w : World) (hs : s.size ≤ maxLen) :
    Calls Try.prog 37 #[.string s] w fun e w' => e = .returned (.bool (isName s)) ∧ w = w' := by
  unfold maxLen at hs
  by_cases h1 : s.size < 1
  · have HN := Lib.hid (isName_size (.inl h1))
    go_enter Try.func37, Try.ntmps37
    go_wp2
    go_ret
    exact ⟨retB HN.out.symm, rfl⟩
  by_cases h2 : 8 < s.size
  · have HN := Lib.hid (isName_size (.inr h2))
    go_enter Try.func37, Try.ntmps37
    go_wp2
    go_ret
    exact ⟨retB HN.out.symm, rfl⟩
  have h0 : 0 < s.size := by omega
  cases hl : lowC s[0].toNat with
  | false =>
    have HN := Lib.hid (isName_first h0 hl)
    have hb := lowC_no hl
    clear hl
    rcases hb with hb | hb
    all_goals
      go_enter Try.func37, Try.ntmps37
      go_wp2
      go_ret
      exact ⟨retB HN.out.symm, rfl⟩
  | true =>
  obtain ⟨hb1, hb2⟩ := lowC_yes hl
  have HL := Lib.hid hl
  clear hl
  go_enter Try.func37, Try.ntmps37
  go_wp2
  clear hb1 hb2
  go_loop [24] (fun i => ∃ k : Nat, k ≤ s.size ∧ i = .int .i64 k ∧ Hid (∀ j (h : j < s.size), j < k → nameC s[j].toNat = true)) (fun i => s.size - (intOf i).toNat)
  case atStart => exact ⟨0, Nat.zero_le _, rfl, fun j h h0 => absurd h0 (Nat.not_lt_zero _)⟩
  case round =>
    obtain ⟨k, hk, rfl, HR⟩ := hrel
    by_cases hlt : k < s.size
    · have hstep : nameC s[k].toNat = true → ∀ j (h : j < s.size), j < k + 1 → nameC s[j].toNat = true := by
        intro h1 j h hj
        rcases Nat.lt_or_ge j k with hj' | hj'
        · exact HR.out j h hj'
        · obtain rfl : j = k := by omega
          exact h1
      have HS := Lib.hid hstep
      clear hstep
      rcases nameC_cases s[k].toNat with ⟨h1, h2, h3, h4⟩ | ⟨h1, h2, h3, h4, h5⟩ | ⟨h1, h2, h3⟩
      · have HF := Lib.hid (HS.out h1)
        clear h1 h2
        go_wp2
        go_round
        case rel => exact ⟨k + 1, by omega, by go_num, HF.out⟩
        case measure => simp [intOf]; omega
      · have HF := Lib.hid (HS.out h1)
        clear h1 h2
        go_wp2
        go_round
        case rel => exact ⟨k + 1, by omega, by go_num, HF.out⟩
        case measure => simp [intOf]; omega
      · have HN := Lib.hid (isName_no hlt h1)
        clear h1 h2
        rcases h3 with h3 | ⟨h3, h4⟩ | h3
        all_goals
          go_wp2
          go_ret
          exact ⟨retB HN.out.symm, rfl⟩
    · go_wp2
      go_ret
      refine ⟨retB ?_, rfl⟩
      have hH := HR.out
      rw [isName_yes (by omega) (by omega) (fun _ => HL.out) (fun j h => hH j h (by omega))]
end Go.Proofs.Ytkibbomfpklghaa
