/-
  SubsetsOf and PairsOf of the program; of the reference.
-/
import Derived.Test.YtogenfooeplkmaaSub
namespace Go.Proofs.Ytogenfooeplkmaa
open Go.RowKit Go.Deep

set_option maxRecDepth 100000 in
set_option maxHeartbeats 2000000 in
theorem bit_check : ∀ s : Nat, s < 32 → ∀ j : Nat, j < 5 → (bits BinOp.and IntKind.i64 ((s : Int) / 2 ^ j) 1 == 1) = bitB s j := by decide

set_option maxHeartbeats 3200000 in
set_option maxRecDepth 100000 in
theorem implSubsetsOf_any {w : World} (n k : Int) :
    Calls Try.prog 40 #[.int .i64 n, .int .i64 k] w fun e w' => ∃ v, e = .returned v ∧ OII w' w.heap.size v (subsetsOf n k) ∧ Below w.heap.size w w' := by
  by_cases hr : n < 1 ∨ 5 < n ∨ k < 0 ∨ n < k
  · have HC := Lib.hid (subsetsOf_no hr)
    by_cases h1 : n < 1
    · go_enter Try.func40, Try.ntmps40
      go_wp2_with fail
      go_ret
      exact ⟨_, rfl, by rw [HC.out]; exact OII.nil _ _, Below.refl _ _⟩
    by_cases h2 : 5 < n
    · go_enter Try.func40, Try.ntmps40
      go_wp2_with fail
      go_ret
      exact ⟨_, rfl, by rw [HC.out]; exact OII.nil _ _, Below.refl _ _⟩
    by_cases h3 : k < 0
    · go_enter Try.func40, Try.ntmps40
      go_wp2_with fail
      go_ret
      exact ⟨_, rfl, by rw [HC.out]; exact OII.nil _ _, Below.refl _ _⟩
    have h4 : n < k := by omega
    clear hr
    go_enter Try.func40, Try.ntmps40
    go_wp2_with fail
    go_ret
    exact ⟨_, rfl, by rw [HC.out]; exact OII.nil _ _, Below.refl _ _⟩
  obtain ⟨N, rfl⟩ := Int.eq_ofNat_of_zero_le (show 0 ≤ n by omega)
  obtain ⟨K, rfl⟩ := Int.eq_ofNat_of_zero_le (show 0 ≤ k by omega)
  have h1 : 1 ≤ N := by omega
  have h2 : N ≤ 5 := by omega
  have h3 : K ≤ N := by omega
  have HC := Lib.hid (subsetsOf_yes h1 h2 h3)
  have d1 : decide ((N : Int) < 1) = false := decide_eq_false (by omega)
  have d2 : decide ((5 : Int) < (N : Int)) = false := decide_eq_false (by omega)
  have d3 : decide ((K : Int) < 0) = false := decide_eq_false (by omega)
  have d4 : decide ((N : Int) < (K : Int)) = false := decide_eq_false (by omega)
  obtain ⟨M, hM⟩ : ∃ M, M = 2 ^ N := ⟨_, rfl⟩
  have hM1 : 2 ≤ M ∧ M ≤ 32 := by
    rw [hM]
    exact ⟨Nat.pow_le_pow_right (by omega) h1 (n := 2), Nat.pow_le_pow_right (by omega) h2 (n := 2)⟩
  have HM := Lib.hid hM
  have d5 : decide (N < K) = false := decide_eq_false (by omega)
  have hsh : wrap64 ((2 : Int) ^ N) = (M : Int) := by
    rw [show ((2 : Int) ^ N) = ((2 ^ N : Nat) : Int) from by simp, ← hM]
    unfold wrap64
    omega
  clear hr hM
  go_enter Try.func40, Try.ntmps40
  go_wp2_with fail
  simp only [hsh]
  have H0 : Hid (OII (w.alloc (.cells #[] 33)) w.heap.size (.slice (some ⟨w.heap.size, 0, none⟩) 0 0) (subsTo N K 0) ∧ Below w.heap.size w (w.alloc (.cells #[] 33))) :=
    ⟨OIIh.toOII (OIIh.lit w), (Below.refl _ _).alloc (Nat.le_refl _) _⟩
  go_loopw [5, 27] (fun v i wr => ∃ s : Nat, s ≤ M ∧ i = .int .i64 s ∧ Hid (OII wr w.heap.size v (subsTo N K s) ∧ Below w.heap.size w wr)) (fun _ i _ => M - (intOf i).toNat)
  case atStart => exact ⟨0, Nat.zero_le _, rfl, H0.out⟩
  case round =>
    obtain ⟨s, hs, rfl, HR⟩ := hrel
    obtain ⟨A5, c5, rfl, -⟩ := OIIh.form HR.out.1
    by_cases hlt : s < M
    · have HI0 : Hid (OI (wr.alloc (.cells #[] 3)) wr.heap.size (.slice (some ⟨wr.heap.size, 0, none⟩) 0 0) (bitsTo s 0) ∧ Below wr.heap.size wr (wr.alloc (.cells #[] 3))) := ⟨OI.lit wr, (Below.refl _ _).alloc (Nat.le_refl _) _⟩
      go_wp2_with fail
      obtain ⟨wo, hwo⟩ : ∃ wo : World, wo = wr := ⟨_, rfl⟩
      subst hwo
      go_loopw [7, 32] (fun v i wi => ∃ j : Nat, j ≤ N ∧ i = .int .i64 j ∧ Hid (OI wi wo.heap.size v (bitsTo s j) ∧ Below wo.heap.size wo wi)) (fun _ i _ => N - (intOf i).toNat)
      case atStart => exact ⟨0, Nat.zero_le _, rfl, HI0.out⟩
      case round =>
        obtain ⟨j, hj, rfl, HI⟩ := hrel
        obtain ⟨A7, c7, rfl, -⟩ := OI.form HI.out.1
        by_cases hjn : j < N
        · have hbit := bit_check s (by omega) j (by omega)
          have hbl := bitsTo_len s j
          obtain ⟨bt, hbt⟩ : ∃ bt, bt = bitsTo s j := ⟨_, rfl⟩
          rw [← hbt] at HI hbl
          cases hb : bitB s j with
          | false =>
            have HN : Hid (OI wr wo.heap.size (.slice A7 (bitsTo s j).length c7) (bitsTo s (j + 1)) ∧ Below wo.heap.size wo wr) := by
              rw [← hbt]
              rw [bitsTo_no hb, ← hbt]; exact HI.out
            rw [hb] at hbit
            clear hb
            go_wp2_with fail
            go_roundw
            case rel => exact ⟨j + 1, by omega, by go_num, HN.out⟩
            case measure => simp [intOf]; omega
          | true =>
            have HBT : Hid (bitsTo s (j + 1) = bt ++ [(j : Int)]) := by rw [hbt]; exact bitsTo_yes hb
            have HBE := Lib.hid hbt
            rw [hb] at hbit
            rw [← hbt]
            clear hb hbt
            go_wp2_with (at_builtin; refine wpList_appInt _ rfl (.tmp 40) (.tmp 42) rfl wo.heap.size _ bt (j : Int) rfl rfl rfl HI.out.1 (by omega) HI.out.2.size ?_; intro v1 w1 ho hb1 _)
            have HN : Hid (OI w1 wo.heap.size v1 (bitsTo s (j + 1)) ∧ Below wo.heap.size wo w1) := ⟨by rw [HBT.out]; exact ho, HI.out.2.trans hb1⟩
            clear ho hb1
            go_wp2_with fail
            go_roundw
            case rel => exact ⟨j + 1, by omega, by go_num, HN.out⟩
            case measure => simp [intOf]; omega
        · obtain rfl : N = j := by omega
          have HB := Lib.hid (bstep HR.out.2 HI.out.2)
          have HO5 : Hid (OIIh wr w.heap.size wo.heap.size (.slice A5 (subsTo N K s).length c5) (subsTo N K s)) := OIIh.step HR.out.1 HI.out.2
          have hsl := subsTo_len N K s
          obtain ⟨q, hq⟩ : ∃ q, q = (bitsTo s N).length := ⟨_, rfl⟩
          by_cases hqk : q = K
          · have HN0 := Lib.hid (subsTo_yes (n := N) (k := K) (m := s) (by rw [← hq]; exact hqk))
            have hqb : ((q : Int) == (K : Int)) = true := by rw [hqk]; simp
            have HQ : Hid (OI wr wo.heap.size (.slice A7 q c7) (bitsTo s N)) := by rw [hq]; exact HI.out.1
            rw [← hq]
            clear hq hqk
            go_wp2_with (at_builtin; refine wpList_appRow _ rfl (.tmp 49) (.tmp 51) rfl w.heap.size wo.heap.size wo.heap.size wr.heap.size _ _ (subsTo N K s) (bitsTo s N) rfl rfl rfl HO5.out HQ.out (Nat.le_refl _) HR.out.2.size (OI.bound HQ.out) HI.out.2.size (by omega) HB.out.size ?_; intro v2 w2 ho hb2 _)
            have HN : Hid (OII w2 w.heap.size v2 (subsTo N K (s + 1)) ∧ Below w.heap.size w w2) := ⟨by rw [HN0.out]; exact OIIh.toOII ho, HB.out.trans hb2⟩
            clear ho hb2
            go_wp2_with fail
            go_roundw
            case rel => exact ⟨s + 1, by omega, by go_num, HN.out⟩
            case measure => simp [intOf]; omega
          · have HN : Hid (OII wr w.heap.size (.slice A5 (subsTo N K s).length c5) (subsTo N K (s + 1)) ∧ Below w.heap.size w wr) := by
              rw [subsTo_no (by rw [← hq]; exact hqk)]
              exact ⟨OIIh.toOII HO5.out, HB.out⟩
            have hqb : ((q : Int) == (K : Int)) = false := beq_eq_false_iff_ne.2 (by omega)
            rw [← hq]
            clear hq hqk
            go_wp2_with fail
            go_roundw
            case rel => exact ⟨s + 1, by omega, by go_num, HN.out⟩
            case measure => simp [intOf]; omega
    · obtain rfl : M = s := by omega
      have hso : sortL (subsTo N K M) = subs K 0 N := by rw [HM.out]; exact subsTo_sorted h2 h3
      have hln : (subsTo N K M).length = (subs K 0 N).length := by rw [← hso, sortL_len]
      have hl := subs_len h2 h3
      obtain ⟨q, hq⟩ : ∃ q, q = (subsTo N K M).length := ⟨_, rfl⟩
      obtain ⟨A6, c6, hA6, h6⟩ := OIIh.form HR.out.1
      obtain ⟨g, hg, -⟩ := h6 (by omega)
      simp only [Value.slice.injEq, true_and] at hA6
      obtain ⟨rfl, rfl⟩ := hA6
      subst hg
      have HR1 : Hid (OIIh wr w.heap.size wr.heap.size (.slice (some ⟨g, 0, none⟩) q c5) (subsTo N K M)) := by rw [hq]; exact HR.out.1
      have HQ : Hid ((subsTo N K M).length = q) := hq.symm
      have HSO := Lib.hid hso
      have hq1 : 1 ≤ q ∧ q ≤ 10 := by omega
      rw [← hq]
      clear hso hln hl hq h6
      go_wp2_with fail
      refine (sortRows_any HR1.out HQ.out (by omega) (by have := HQ.out; omega)).mono ?_
      rw [HSO.out]
      rintro e w2 ⟨rfl, o, gr⟩
      have HF : Hid (OII w2 w.heap.size (.slice (some ⟨g, 0, none⟩) q c5) (subs K 0 N) ∧ Below w.heap.size w w2) := ⟨OIIh.toOII o, HR.out.2.grown gr HR.out.2.size (fun gg hg => by cases hg; exact (OIIh.form2 HR1.out).1)⟩
      clear o gr
      go_wp2_with fail
      go_ret
      exact ⟨_, rfl, by rw [HC.out]; exact HF.out.1, HF.out.2⟩

set_option maxHeartbeats 800000 in
theorem specSubsetsOf_any {w : World} (n k : Int) :
    Calls Try.prog 39 #[.int .i64 n, .int .i64 k] w fun e w' => ∃ v, e = .returned v ∧ OII w' w.heap.size v (subsetsOf n k) ∧ Below w.heap.size w w' := by
  by_cases hr : n < 1 ∨ 5 < n
  · have HC := Lib.hid (subsetsOf_no (n := n) (k := k) (by omega))
    go_enter Try.func39, Try.ntmps39
    go_wp2_with (go_at_call 56; refine (l01In_no _ _ _ _ (by omega)).mono ?_; rintro e w' ⟨rfl, rfl⟩)
    go_ret
    exact ⟨_, rfl, by rw [HC.out]; exact OII.nil _ _, Below.refl _ _⟩
  by_cases hk : k < 0 ∨ n < k
  · have HC := Lib.hid (subsetsOf_no (n := n) (k := k) (by omega))
    go_enter Try.func39, Try.ntmps39
    go_wp2_with fail
    refine (l01In_yes n 1 5 _ (by omega) (by omega)).mono ?_
    rintro e w' ⟨rfl, rfl⟩
    go_wp2_with fail
    refine (l01In_no k 0 n _ (by omega)).mono ?_
    rintro e w' ⟨rfl, rfl⟩
    go_wp2_with fail
    go_ret
    exact ⟨_, rfl, by rw [HC.out]; exact OII.nil _ _, Below.refl _ _⟩
  obtain ⟨N, rfl⟩ := Int.eq_ofNat_of_zero_le (show 0 ≤ n by omega)
  obtain ⟨K, rfl⟩ := Int.eq_ofNat_of_zero_le (show 0 ≤ k by omega)
  have HC := Lib.hid (subsetsOf_yes (n := N) (k := K) (by omega) (by omega) (by omega))
  go_enter Try.func39, Try.ntmps39
  go_wp2_with fail
  refine (l01In_yes (N : Int) 1 5 _ (by omega) (by omega)).mono ?_
  rintro e w' ⟨rfl, rfl⟩
  go_wp2_with fail
  refine (l01In_yes (K : Int) 0 (N : Int) _ (by omega) (by omega)).mono ?_
  rintro e w' ⟨rfl, rfl⟩
  go_wp2_with fail
  refine (l04Subsets_any K w 0 N _ _ rfl rfl (by omega) (by omega) (by omega)).mono ?_
  rintro e w1 ⟨v, rfl, o, b⟩
  have HF := Lib.hid (And.intro o b)
  obtain ⟨A, c, rfl⟩ := o.reads.shape
  clear o b
  go_wp2_with fail
  go_ret
  exact ⟨_, rfl, by rw [HC.out]; exact HF.out.1, HF.out.2⟩

set_option maxHeartbeats 800000 in
theorem specPairsOf_any {w : World} (n : Int) :
    Calls Try.prog 41 #[.int .i64 n] w fun e w' => ∃ v, e = .returned v ∧ OII w' w.heap.size v (pairsOf n) ∧ Below w.heap.size w w' := by
  by_cases hr : n < 2 ∨ 5 < n
  · have HC := Lib.hid (pairsOf_no hr)
    go_enter Try.func41, Try.ntmps41
    go_wp2_with (go_at_call 56; refine (l01In_no _ _ _ _ (by omega)).mono ?_; rintro e w' ⟨rfl, rfl⟩)
    go_ret
    exact ⟨_, rfl, by rw [HC.out]; exact OII.nil _ _, Below.refl _ _⟩
  obtain ⟨N, rfl⟩ := Int.eq_ofNat_of_zero_le (show 0 ≤ n by omega)
  have HC := Lib.hid (pairsOf_yes (n := N) (by omega) (by omega))
  go_enter Try.func41, Try.ntmps41
  go_wp2_with (go_at_call 56; refine (l01In_yes _ _ _ _ (by omega) (by omega)).mono ?_; rintro e w' ⟨rfl, rfl⟩)
  refine (l04Subsets_any 2 w 0 N _ _ rfl rfl (by omega) (by omega) (by omega)).mono ?_
  rintro e w1 ⟨v, rfl, o, b⟩
  have HF := Lib.hid (And.intro o b)
  obtain ⟨A, c, rfl⟩ := o.reads.shape
  clear o b
  go_wp2_with fail
  go_ret
  exact ⟨_, rfl, by rw [HC.out]; exact HF.out.1, HF.out.2⟩

set_option maxHeartbeats 800000 in
theorem implPairsOf_any {w : World} (n : Int) :
    Calls Try.prog 42 #[.int .i64 n] w fun e w' => ∃ v, e = .returned v ∧ OII w' w.heap.size v (pairsOf n) ∧ Below w.heap.size w w' := by
  by_cases hr : n < 2 ∨ 5 < n
  · have HC := Lib.hid (pairsOf_no hr)
    rcases hr with hr | hr
    all_goals
      go_enter Try.func42, Try.ntmps42
      go_wp2_with fail
      go_ret
      exact ⟨_, rfl, by rw [HC.out]; exact OII.nil _ _, Below.refl _ _⟩
  obtain ⟨N, rfl⟩ := Int.eq_ofNat_of_zero_le (show 0 ≤ n by omega)
  have HC := Lib.hid (pairsOf_sub (n := N) (by omega) (by omega))
  have d1 : decide ((N : Int) < 2) = false := decide_eq_false (by omega)
  have d2 : decide ((5 : Int) < (N : Int)) = false := decide_eq_false (by omega)
  clear hr
  go_enter Try.func42, Try.ntmps42
  go_wp2_with fail
  refine (implSubsetsOf_any (w := w) (N : Int) 2).mono ?_
  rw [← HC.out]
  rintro e w1 ⟨v, rfl, o, b⟩
  have HF := Lib.hid (And.intro o b)
  obtain ⟨A, c, rfl⟩ := o.reads.shape
  clear o b
  go_wp2_with fail
  go_ret
  exact ⟨_, rfl, HF.out.1, HF.out.2⟩
end Go.Proofs.Ytogenfooeplkmaa
