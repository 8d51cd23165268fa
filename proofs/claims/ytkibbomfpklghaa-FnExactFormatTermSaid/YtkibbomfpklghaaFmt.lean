/-
  FormatInt, of the program and of the reference.
-/
import Derived.Test.YtkibbomfpklghaaFmtFn
import Derived.Deep.RegionWith
namespace Go.Proofs.Ytkibbomfpklghaa
open Go.RowKit Go.Deep

set_option maxHeartbeats 800000 in
theorem implFmtLow_any {w : World} (n : Nat) (h : n < 10) :
    Calls Try.prog 34 #[.int .i64 n] w fun e w' => e = .returned (.string (fmt n)) ∧ w = w' := by
  obtain ⟨z, hz⟩ : ∃ z : Int, z = (n : Int) := ⟨_, rfl⟩
  have HE : Hid (Utf8.encode (48 + z) = fmt z) := by rw [hz]; exact enc_digit h
  rw [← hz]
  have h0 : 0 ≤ z := by omega
  have h1 : z < 10 := by omega
  clear hz h
  go_enter Try.func34, Try.ntmps34
  go_wp2
  go_ret
  exact ⟨retS HE.out, rfl⟩

set_option maxHeartbeats 1600000 in
theorem implFmtNat_any : ∀ (m n : Nat) {w : World}, n < m → n ≤ 9223372036854775808 →
    (Calls Try.prog 34 #[.int .i64 (-(n : Int))] w fun e w' => e = .returned (.string (fmt (-(n : Int)))) ∧ w = w') ∧ (n ≤ 9223372036854775807 →
    Calls Try.prog 34 #[.int .i64 n] w fun e w' => e = .returned (.string (fmt n)) ∧ w = w') := by
  intro m
  induction m with
  | zero => intro n w h; omega
  | succ m ih =>
    intro n w hn hm
    by_cases hl : n < 10
    · refine ⟨?_, fun _ => implFmtLow_any n hl⟩
      rcases Nat.eq_zero_or_pos n with rfl | h0
      · exact implFmtLow_any 0 hl
      have HE : Hid (fmt (-(n : Int)) = strOfNums [45] ++ fmt (n : Int)) := fmt_neg1 h0 hl
      obtain ⟨z, hz⟩ : ∃ z : Int, z = -(n : Int) := ⟨_, rfl⟩
      rw [← hz] at HE ⊢
      have hz1 : -z = (n : Int) := by omega
      have hz2 : z < 0 := by omega
      have hz3 : -10 < z := by omega
      clear ih hz
      have HZ := Lib.hid hz1
      have g1 : 1 + (fmt (n : Int)).size ≤ 9223372036854775807 := by have := fmt_size (n := (n : Int)) (by omega); omega
      go_enter Try.func34, Try.ntmps34
      go_wp2_with fail
      refine (implFmtLow_any n hl).mono ?_
      rintro e w1 ⟨rfl, rfl⟩
      go_wp2
      go_ret
      exact ⟨retS HE.out.symm, rfl⟩
    · have hq : n / 10 < m := by omega
      obtain ⟨q, hqe⟩ : ∃ q, q = n / 10 := ⟨_, rfl⟩
      obtain ⟨r, hre⟩ : ∃ r, r = n % 10 := ⟨_, rfl⟩
      have hr : r < 10 := by omega
      have HE : Hid (fmt (-(n : Int)) = fmt (-(q : Int)) ++ fmt (r : Int)) := by rw [hqe, hre]; exact fmt_neg2 hl
      have HE2 : Hid (fmt (n : Int) = fmt (q : Int) ++ fmt (r : Int)) := by rw [hqe, hre]; exact fmt_high hl
      have hq0 : 1 ≤ q := by omega
      have hq9 : q ≤ 922337203685477580 := by omega
      have HQ : Hid (∀ {w : World}, (Calls Try.prog 34 #[.int .i64 (-(q : Int))] w fun e w' => e = .returned (.string (fmt (-(q : Int)))) ∧ w = w') ∧ (q ≤ 9223372036854775807 → Calls Try.prog 34 #[.int .i64 q] w fun e w' => e = .returned (.string (fmt q)) ∧ w = w')) := by
        intro w; rw [hqe]; exact ih (n / 10) hq (by omega)
      have g1 : (fmt (-(q : Int))).size + (fmt (r : Int)).size ≤ 9223372036854775807 := by
        have := fmt_size (n := -(q : Int)) (by omega)
        have := fmt_size (n := (r : Int)) (by omega)
        omega
      have g2 : (fmt (q : Int)).size + (fmt (r : Int)).size ≤ 9223372036854775807 := by
        have := fmt_size (n := (q : Int)) (by omega)
        have := fmt_size (n := (r : Int)) (by omega)
        omega
      clear ih hq
      constructor
      · have t1 : (-(n : Int)).tdiv 10 = -(q : Int) := by rw [hqe]; exact neg_tdiv10 n
        have t2 : (-(n : Int)).tmod 10 = -(r : Int) := by rw [hre]; exact neg_tmod10 n
        clear hqe hre
        obtain ⟨z, hz⟩ : ∃ z : Int, z = -(n : Int) := ⟨_, rfl⟩
        rw [← hz] at HE t1 t2 ⊢
        have hz2 : z < 0 := by omega
        have hz3 : z ≤ -10 := by omega
        have hz4 : -9223372036854775808 ≤ z := by omega
        clear hz
        go_enter Try.func34, Try.ntmps34
        go_wp2_with fail
        refine HQ.out.1.mono ?_
        rintro e w1 ⟨rfl, rfl⟩
        go_wp2_with fail
        refine (implFmtLow_any r hr).mono ?_
        rintro e w1 ⟨rfl, rfl⟩
        go_wp2
        go_ret
        exact ⟨retS HE.out.symm, rfl⟩
      · intro h7
        have t1 : (n : Int).tdiv 10 = (q : Int) := by rw [hqe]; exact tdiv10 n
        have t2 : (n : Int).tmod 10 = (r : Int) := by rw [hre]; exact tmod10 n
        clear hqe hre
        obtain ⟨z, hz⟩ : ∃ z : Int, z = (n : Int) := ⟨_, rfl⟩
        rw [← hz] at HE2 t1 t2 ⊢
        have hz2 : 10 ≤ z := by omega
        have hz4 : z ≤ 9223372036854775807 := by omega
        clear hz
        go_enter Try.func34, Try.ntmps34
        go_wp2_with fail
        refine (HQ.out.2 (by omega)).mono ?_
        rintro e w1 ⟨rfl, rfl⟩
        go_wp2_with fail
        refine (implFmtLow_any r hr).mono ?_
        rintro e w1 ⟨rfl, rfl⟩
        go_wp2
        go_ret
        exact ⟨retS HE2.out.symm, rfl⟩

theorem implFormatInt_any {w : World} (n : Int) (h : -9223372036854775808 ≤ n ∧ n ≤ 9223372036854775807) :
    Calls Try.prog 34 #[.int .i64 n] w fun e w' => e = .returned (.string (fmt n)) ∧ w = w' := by
  by_cases h0 : 0 ≤ n
  · obtain ⟨m, rfl⟩ := Int.eq_ofNat_of_zero_le h0
    exact (implFmtNat_any (m + 1) m (by omega) (by omega)).2 (by omega)
  · obtain ⟨m, hm⟩ : ∃ m : Nat, n = -(m : Int) := ⟨n.natAbs, by omega⟩
    subst hm
    exact (implFmtNat_any (m + 1) m (by omega) (by omega)).1
theorem implFormatIntB_any {w : World} (n : Int) (h : -9223372036854775808 ≤ n ∧ n ≤ 9223372036854775807) :
    Calls Try.prog 34 #[.int .i64 n] w fun e w' => e = .returned (.string (fmt n)) ∧ Below w.heap.size w w' := by
  refine (implFormatInt_any n h).mono ?_
  rintro e w' ⟨rfl, rfl⟩
  exact ⟨rfl, Below.refl _ _⟩
end Go.Proofs.Ytkibbomfpklghaa
