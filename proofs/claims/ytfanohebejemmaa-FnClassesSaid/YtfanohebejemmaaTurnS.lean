/-
  l03Turn, l03Mirror; CyclicGroup, DihedralGroup, SymmetricGroup of the reference.
-/
import Derived.Test.YtfanohebejemmaaTurnFn
import Derived.Test.YtfanohebejemmaaGenS
import Derived.Sort.OwnSortedInts
namespace Go.Proofs.Ytfanohebejemmaa
open Go.RowKit Go.Deep Go.Sort

/-- '[][]int{x}', '[][]int{x, y}'. -/
theorem RII.lit1 {w : World} {a : Value} {x : List Int} (ha : RI w a x) : RII (w.alloc (.cells #[a] 27)) (.slice (some ⟨w.heap.size, 0, none⟩) 1 1) [x] :=
  ⟨_, 1, rfl, by unfold maxLen; simp, fun _ => ⟨w.heap.size, 0, rfl, by simp, fun k hk => by
    obtain rfl : k = 0 := by simp at hk; omega
    exact ⟨a, by rw [World.cell?_alloc_mark]; rfl, ha.alloc _⟩⟩⟩
theorem RII.lit2 {w : World} {a b : Value} {x y : List Int} (ha : RI w a x) (hb : RI w b y) : RII (w.alloc (.cells #[a, b] 27)) (.slice (some ⟨w.heap.size, 0, none⟩) 2 2) [x, y] :=
  ⟨_, 2, rfl, by unfold maxLen; simp, fun _ => ⟨w.heap.size, 0, rfl, by simp, fun k hk => by
    have hk' : k = 0 ∨ k = 1 := by simp at hk; omega
    rcases hk' with rfl | rfl
    · exact ⟨a, by rw [World.cell?_alloc_mark]; rfl, ha.alloc _⟩
    · exact ⟨b, by rw [World.cell?_alloc_mark]; rfl, hb.alloc _⟩⟩⟩

theorem tmod_nat (a b : Nat) : ((a : Int)).tmod (b : Int) = ((a % b : Nat) : Int) := rfl

set_option maxHeartbeats 800000 in
theorem l03Turn_any {w : World} (N : Nat) (h1 : 1 ≤ N) (h2 : N ≤ 10) :
    Calls Try.prog 125 #[.int .i64 N] w fun e w' => ∃ v, e = .returned v ∧ OI w' w.heap.size v (turnL N) ∧ Below w.heap.size w w' := by
  have hN0 : ((N : Int) == 0) = false := beq_eq_false_iff_ne.2 (by omega)
  have hN1 : ¬ (N : Int) = 0 := by omega
  have hN2 : ¬ N = 0 := by omega
  go_enter Try.func125, Try.ntmps125
  go_wp2_with fail
  have H0 : Hid (OI (w.alloc (.cells #[] 3)) w.heap.size (.slice (some ⟨w.heap.size, 0, none⟩) 0 0) [] ∧ Below w.heap.size w (w.alloc (.cells #[] 3))) := ⟨World.ownsRow_lit w #[] 0 (Nat.le_refl _) (by simp) rfl, (Below.refl _ _).alloc (Nat.le_refl _) _⟩
  go_loopw [3, 4] (fun v i wr => ∃ k : Nat, k ≤ N ∧ i = .int .i64 k ∧ Hid (OI wr w.heap.size v (turnUp N k) ∧ Below w.heap.size w wr)) (fun _ i _ => N - (intOf i).toNat)
  case atStart => exact ⟨0, Nat.zero_le _, rfl, H0.out⟩
  case round =>
    obtain ⟨k, hk, rfl, HR⟩ := hrel
    by_cases hlt : k < N
    · have hrm : ((k : Int) + 1).tmod (N : Int) = (((k + 1) % N : Nat) : Int) := by
        rw [show (k : Int) + 1 = ((k + 1 : Nat) : Int) from by omega, tmod_nat]
      obtain ⟨y, hy⟩ : ∃ y, y = (k + 1) % N := ⟨_, rfl⟩
      rw [← hy] at hrm
      have HY := Lib.hid hy
      clear hy
      go_wp2_with (at_builtin; refine wpList_appInt _ rfl (.tmp 11) (.tmp 16) rfl w.heap.size _ (turnUp N k) (y : Int) rfl rfl rfl HR.out.1 (by rw [turnUp_len]; omega) HR.out.2.size ?_; intro v1 w1 ho hb _)
      have HN : Hid (OI w1 w.heap.size v1 (turnUp N (k + 1)) ∧ Below w.heap.size w w1) := ⟨by rw [turnUp_succ, ← HY.out]; exact ho, HR.out.2.trans hb⟩
      clear ho hb
      go_wp2
      go_roundw
      case rel => exact ⟨k + 1, by omega, by go_num, HN.out⟩
      case measure => simp [intOf]; omega
    · go_wp2
      go_ret
      obtain rfl : k = N := by omega
      exact ⟨_, rfl, HR.out.1, HR.out.2⟩

set_option maxHeartbeats 800000 in
theorem l03Mirror_any {w : World} (N : Nat) (h1 : 1 ≤ N) (h2 : N ≤ 10) :
    Calls Try.prog 126 #[.int .i64 N] w fun e w' => ∃ v, e = .returned v ∧ OI w' w.heap.size v (mirL N) ∧ Below w.heap.size w w' := by
  go_enter Try.func126, Try.ntmps126
  go_wp2_with fail
  have H0 : Hid (OI (w.alloc (.cells #[] 3)) w.heap.size (.slice (some ⟨w.heap.size, 0, none⟩) 0 0) [] ∧ Below w.heap.size w (w.alloc (.cells #[] 3))) := ⟨World.ownsRow_lit w #[] 0 (Nat.le_refl _) (by simp) rfl, (Below.refl _ _).alloc (Nat.le_refl _) _⟩
  go_loopw [3, 4] (fun v i wr => ∃ k : Nat, k ≤ N ∧ i = .int .i64 k ∧ Hid (OI wr w.heap.size v (mirUp N k) ∧ Below w.heap.size w wr)) (fun _ i _ => N - (intOf i).toNat)
  case atStart => exact ⟨0, Nat.zero_le _, rfl, H0.out⟩
  case round =>
    obtain ⟨k, hk, rfl, HR⟩ := hrel
    by_cases hlt : k < N
    · obtain ⟨y, hy⟩ : ∃ y, y = N - 1 - k := ⟨_, rfl⟩
      have hrm : (N : Int) - 1 - (k : Int) = (y : Int) := by omega
      have HY := Lib.hid hy
      clear hy
      go_wp2_with (at_builtin; refine wpList_appInt _ rfl (.tmp 11) (.tmp 16) rfl w.heap.size _ (mirUp N k) (y : Int) rfl rfl rfl HR.out.1 (by rw [mirUp_len]; omega) HR.out.2.size ?_; intro v1 w1 ho hb _)
      have HN : Hid (OI w1 w.heap.size v1 (mirUp N (k + 1)) ∧ Below w.heap.size w w1) := ⟨by rw [mirUp_succ, ← HY.out]; exact ho, HR.out.2.trans hb⟩
      clear ho hb
      go_wp2
      go_roundw
      case rel => exact ⟨k + 1, by omega, by go_num, HN.out⟩
      case measure => simp [intOf]; omega
    · go_wp2
      go_ret
      obtain rfl : k = N := by omega
      exact ⟨_, rfl, HR.out.1, HR.out.2⟩

theorem specCyclicGroup_any {w : World} (n : Int) :
    Calls Try.prog 96 #[.int .i64 n] w fun e w' => ∃ v, e = .returned (.tuple #[v, .bool (cyclicGroup n).2]) ∧ OII w' w.heap.size v (cyclicGroup n).1 ∧ Below w.heap.size w w' := by
  by_cases hr : n < 1 ∨ 10 < n
  · have HC := Lib.hid (cyclicGroup_no hr)
    go_enter Try.func96, Try.ntmps96
    go_wp2_with (go_at_call 53; refine (l01In_no _ _ _ _ (by omega)).mono ?_; rintro e w' ⟨rfl, rfl⟩)
    go_ret2
    exact ⟨_, ret2 (by rw [HC.out]), by rw [HC.out]; exact OII.nil _ _, Below.refl _ _⟩
  obtain ⟨N, rfl⟩ := Int.eq_ofNat_of_zero_le (show 0 ≤ n by omega)
  have h1 : 1 ≤ N := by omega
  have h2 : N ≤ 10 := by omega
  have HT : Hid (cyclicGroup (N : Int) = groupOf N [turnL N]) := by unfold Hid cyclicGroup; rw [turnP_yes h1 h2]
  clear hr
  go_enter Try.func96, Try.ntmps96
  go_wp2_with (go_at_call 53; refine (l01In_yes _ _ _ _ (by omega) (by omega)).mono ?_; rintro e w' ⟨rfl, rfl⟩)
  refine (l03Turn_any N h1 h2).mono ?_
  rintro e w1 ⟨v, rfl, o, b⟩
  have HO := Lib.hid (And.intro o b)
  obtain ⟨A, c, rfl, -⟩ := OI.form o
  clear o b
  go_wp2_with fail
  refine (specGroupOf_any (N : Int) (RII.lit1 HO.out.1.reads)).mono ?_
  rw [← HT.out]
  rintro e w2 ⟨v2, rfl, o, b⟩
  have HB : Hid (Below w.heap.size w w2) := bstep (HO.out.2.alloc HO.out.2.size _) b
  have HF := Lib.hid (OII.mono o (by have := HO.out.2.size; simp; omega) : OII w2 w.heap.size v2 (cyclicGroup (N : Int)).1)
  clear o b
  obtain ⟨A2, c2, rfl⟩ := HF.out.reads.shape
  go_wp2_with fail
  go_ret2
  exact ⟨_, rfl, HF.out, HB.out⟩

set_option maxHeartbeats 800000 in
theorem specDihedralGroup_any {w : World} (n : Int) :
    Calls Try.prog 97 #[.int .i64 n] w fun e w' => ∃ v, e = .returned (.tuple #[v, .bool (dihedralGroup n).2]) ∧ OII w' w.heap.size v (dihedralGroup n).1 ∧ Below w.heap.size w w' := by
  by_cases hr : n < 1 ∨ 10 < n
  · have HC := Lib.hid (dihedralGroup_no hr)
    go_enter Try.func97, Try.ntmps97
    go_wp2_with (go_at_call 53; refine (l01In_no _ _ _ _ (by omega)).mono ?_; rintro e w' ⟨rfl, rfl⟩)
    go_ret2
    exact ⟨_, ret2 (by rw [HC.out]), by rw [HC.out]; exact OII.nil _ _, Below.refl _ _⟩
  obtain ⟨N, rfl⟩ := Int.eq_ofNat_of_zero_le (show 0 ≤ n by omega)
  have h1 : 1 ≤ N := by omega
  have h2 : N ≤ 10 := by omega
  have HT : Hid (dihedralGroup (N : Int) = groupOf N [turnL N, mirL N]) := by unfold Hid dihedralGroup; rw [turnP_yes h1 h2, mirP_yes h1 h2]
  clear hr
  go_enter Try.func97, Try.ntmps97
  go_wp2_with (go_at_call 53; refine (l01In_yes _ _ _ _ (by omega) (by omega)).mono ?_; rintro e w' ⟨rfl, rfl⟩)
  refine (l03Turn_any N h1 h2).mono ?_
  rintro e w1 ⟨v, rfl, o, b⟩
  have HO := Lib.hid (And.intro o b)
  obtain ⟨A, c, rfl, -⟩ := OI.form o
  clear o b
  go_wp2_with fail
  refine (l03Mirror_any N h1 h2).mono ?_
  rintro e w3 ⟨v3, rfl, o, b⟩
  have HO3 := Lib.hid (And.intro o (And.intro (bstep HO.out.2 b) (HO.out.1.step b)))
  obtain ⟨A3, c3, rfl, -⟩ := OI.form o
  clear o b
  go_wp2_with fail
  refine (specGroupOf_any (N : Int) (RII.lit2 HO3.out.2.2.reads HO3.out.1.reads)).mono ?_
  rw [← HT.out]
  rintro e w4 ⟨v4, rfl, o, b⟩
  have HB : Hid (Below w.heap.size w w4) := bstep (HO3.out.2.1.alloc HO3.out.2.1.size _) b
  have HF := Lib.hid (OII.mono o (by have := HO3.out.2.1.size; simp; omega) : OII w4 w.heap.size v4 (dihedralGroup (N : Int)).1)
  clear o b
  obtain ⟨A4, c4, rfl⟩ := HF.out.reads.shape
  go_wp2_with fail
  go_ret2
  exact ⟨_, rfl, HF.out, HB.out⟩

set_option maxHeartbeats 1600000 in
theorem specSymmetricGroup_any {w : World} (n : Int) :
    Calls Try.prog 98 #[.int .i64 n] w fun e w' => ∃ v, e = .returned (.tuple #[v, .bool (symmetricGroup n).2]) ∧ OII w' w.heap.size v (symmetricGroup n).1 ∧ Below w.heap.size w w' := by
  by_cases hr : n < 1 ∨ 5 < n
  · have HC := Lib.hid (symmetricGroup_no hr)
    go_enter Try.func98, Try.ntmps98
    go_wp2_with (go_at_call 53; refine (l01In_no _ _ _ _ (by omega)).mono ?_; rintro e w' ⟨rfl, rfl⟩)
    go_ret2
    exact ⟨_, ret2 (by rw [HC.out]), by rw [HC.out]; exact OII.nil _ _, Below.refl _ _⟩
  obtain ⟨N, rfl⟩ := Int.eq_ofNat_of_zero_le (show 0 ≤ n by omega)
  have h1 : 1 ≤ N := by omega
  have h2 : N ≤ 5 := by omega
  have HI : Hid (identityPerm (N : Int) = identity N) := by unfold Hid identityPerm; rw [if_pos ⟨by omega, by omega⟩, Int.toNat_natCast]
  have HT : Hid (symmetricGroup (N : Int) = groupOf N [turnP N, swapL N]) := symmetricGroup_yes h1 h2
  have HTL : Hid (turnP (N : Int) = turnL N) := turnP_yes h1 (by omega)
  have d1 : decide ((N : Int) < 1) = false := decide_eq_false (by omega)
  have d2 : decide ((5 : Int) < (N : Int)) = false := decide_eq_false (by omega)
  clear hr
  go_enter Try.func98, Try.ntmps98
  go_wp2_with (go_at_call 53; refine (l01In_yes _ _ _ _ (by omega) (by omega)).mono ?_; rintro e w' ⟨rfl, rfl⟩)
  refine (specIdentityPerm_any (w := w) (N : Int)).mono ?_
  rw [HI.out]
  rintro e w1 ⟨v, rfl, o, b⟩
  obtain ⟨A, c, rfl, h3⟩ := OI.form o
  rw [identity_len] at h3 o ⊢
  obtain ⟨g, rfl, hg1, -⟩ := h3 (by omega)
  have HO := Lib.hid (And.intro o b)
  clear o b h3
  by_cases hN : 1 < N
  · have d3 : decide ((1 : Int) < (N : Int)) = true := decide_eq_true (by omega)
    have e1 := OI.cell HO.out.1 (identity_len N) 0 (by omega)
    have f1 := OI.frozen HO.out.1 (identity_len N) 0
    have s1 := OI.set HO.out.1 (identity_len N) 0 1
    have l1 : ((identity N).set 0 1).length = N := by rw [List.length_set, identity_len]
    have e2 := OI.cell s1.1 l1 1 hN
    have f2 := OI.frozen s1.1 l1 1
    have s2 := OI.set s1.1 l1 1 0
    have hsw : ((identity N).set 0 1).set 1 0 = swapL N := by unfold swapL; rw [if_pos hN]
    rw [hsw] at s2
    obtain ⟨w2, hw2⟩ : ∃ w2 : World, w2 = (w1.setCell ⟨g, 0, none⟩ (.int .i64 1)).setCell ⟨g, 1, none⟩ (.int .i64 0) := ⟨_, rfl⟩
    have HB2 : Hid (Below w.heap.size w w2) := by rw [hw2]; exact (HO.out.2.setCell (p := ⟨g, 0, none⟩) hg1 _).setCell (p := ⟨g, 1, none⟩) hg1 _
    rw [← hw2] at s2
    have HO2 := Lib.hid s2.1
    have HW2 := Lib.hid hw2
    clear s1 s2 hw2 l1 hsw
    go_wp2_with fail
    rw [← HW2.out]
    refine (l03Turn_any N h1 (by omega)).mono ?_
    rw [← HTL.out]
    rintro e w3 ⟨v3, rfl, o, b⟩
    have HO3 := Lib.hid (And.intro o (And.intro (bstep HB2.out b) (HO2.out.step b)))
    obtain ⟨A3, c3, rfl, -⟩ := OI.form o
    clear o b
    go_wp2_with fail
    refine (specGroupOf_any (N : Int) (RII.lit2 HO3.out.1.reads HO3.out.2.2.reads)).mono ?_
    rw [← HT.out]
    rintro e w4 ⟨v4, rfl, o, b⟩
    have HB : Hid (Below w.heap.size w w4) := bstep (HO3.out.2.1.alloc HO3.out.2.1.size _) b
    have HF := Lib.hid (OII.mono o (by have := HO3.out.2.1.size; simp; omega) : OII w4 w.heap.size v4 (symmetricGroup (N : Int)).1)
    clear o b
    obtain ⟨A4, c4, rfl⟩ := HF.out.reads.shape
    go_wp2_with fail
    go_ret2
    exact ⟨_, rfl, HF.out, HB.out⟩
  · have d3 : decide ((1 : Int) < (N : Int)) = false := decide_eq_false (by omega)
    have hsw : identity N = swapL N := by unfold swapL; rw [if_neg hN]
    have HB2 : Hid (Below w.heap.size w w1) := HO.out.2
    have HO2 := Lib.hid HO.out.1
    rw [hsw] at HO2
    clear hsw hN
    go_wp2_with fail
    obtain ⟨w2, hw2⟩ : ∃ w2 : World, w2 = w1 := ⟨_, rfl⟩
    subst hw2
    refine (l03Turn_any N h1 (by omega)).mono ?_
    rw [← HTL.out]
    rintro e w3 ⟨v3, rfl, o, b⟩
    have HO3 := Lib.hid (And.intro o (And.intro (bstep HB2.out b) (HO2.out.step b)))
    obtain ⟨A3, c3, rfl, -⟩ := OI.form o
    clear o b
    go_wp2_with fail
    refine (specGroupOf_any (N : Int) (RII.lit2 HO3.out.1.reads HO3.out.2.2.reads)).mono ?_
    rw [← HT.out]
    rintro e w4 ⟨v4, rfl, o, b⟩
    have HB : Hid (Below w.heap.size w w4) := bstep (HO3.out.2.1.alloc HO3.out.2.1.size _) b
    have HF := Lib.hid (OII.mono o (by have := HO3.out.2.1.size; simp; omega) : OII w4 w.heap.size v4 (symmetricGroup (N : Int)).1)
    clear o b
    obtain ⟨A4, c4, rfl⟩ := HF.out.reads.shape
    go_wp2_with fail
    go_ret2
    exact ⟨_, rfl, HF.out, HB.out⟩
end Go.Proofs.Ytfanohebejemmaa
