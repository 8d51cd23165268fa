/-
  turn, l03Turn, l03Mirror; CyclicGroup, DihedralGroup, SymmetricGroup of both sides.
-/
import Derived.Test.YtogenfooeplkmaaTurnFn
import Derived.Test.YtogenfooeplkmaaTurnS
import Derived.Test.YtogenfooeplkmaaGenI
import Derived.Test.YtogenfooeplkmaaGenS
import Derived.Sort.OwnSortedInts
namespace Go.Proofs.Ytogenfooeplkmaa
open Go.RowKit Go.Deep Go.Sort

set_option maxHeartbeats 800000 in
theorem implTurn_any {w : World} (n : Int) :
    Calls Try.prog 58 #[.int .i64 n] w fun e w' => ∃ v, e = .returned v ∧ OI w' w.heap.size v (turnP n) ∧ Below w.heap.size w w' := by
  by_cases hr : n < 1 ∨ 10 < n
  · have HT := Lib.hid (turnP_no hr)
    have HI : Hid (identityPerm n = []) := by unfold Hid identityPerm; rw [if_neg (by omega)]
    clear hr
    go_enter Try.func58, Try.ntmps58
    go_wp2_with fail
    refine (implIdentityPerm_any (w := w) n).mono ?_
    rw [HI.out]
    rintro e w1 ⟨v, rfl, o, b⟩
    have HO := Lib.hid (And.intro o b)
    obtain ⟨A, c, rfl, -⟩ := OI.form o
    simp only [List.length_nil] at HO ⊢
    clear o b
    go_wp2_with fail
    go_loop [9] (fun i => i = .int .i64 0) (fun _ => 0)
    case atStart => rfl
    case round =>
      subst hrel
      go_wp2_with fail
      go_ret
      exact ⟨_, rfl, by rw [HT.out]; exact HO.out.1, HO.out.2⟩
  obtain ⟨N, rfl⟩ := Int.eq_ofNat_of_zero_le (show 0 ≤ n by omega)
  have h1 : 1 ≤ N := by omega
  have h2 : N ≤ 10 := by omega
  have HT := Lib.hid (turnP_yes h1 h2)
  have HI : Hid (identityPerm (N : Int) = identity N) := by unfold Hid identityPerm; rw [if_pos ⟨by omega, by omega⟩, Int.toNat_natCast]
  clear hr
  have hN0 : ((N : Int) == 0) = false := beq_eq_false_iff_ne.2 (by omega)
  have hN1 : ¬ (N : Int) = 0 := by omega
  have hN2 : ¬ N = 0 := by omega
  go_enter Try.func58, Try.ntmps58
  go_wp2_with fail
  refine (implIdentityPerm_any (w := w) (N : Int)).mono ?_
  rw [HI.out]
  rintro e w1 ⟨v, rfl, o, b⟩
  obtain ⟨A, c, rfl, h3⟩ := OI.form o
  rw [identity_len] at h3 o
  obtain ⟨g, rfl, hg1, -⟩ := h3 (by omega)
  rw [identity_len, ]
  have HO := Lib.hid (And.intro o b)
  clear o b h3
  go_wp2_with fail
  go_loopw [9] (fun i wr => ∃ k : Nat, k ≤ N ∧ i = .int .i64 k ∧ Hid (OI wr w.heap.size (.slice (some ⟨g, 0, none⟩) N c) (turnTo N k) ∧ Below w.heap.size w wr)) (fun i _ => N - (intOf i).toNat)
  case atStart => exact ⟨0, Nat.zero_le _, rfl, by rw [turnTo_zero]; exact HO.out⟩
  case round =>
    obtain ⟨k, hk, rfl, HR⟩ := hrel
    by_cases hlt : k < N
    · have e1 := OI.cell HR.out.1 (turnTo_len N k) k hlt
      have f1 := OI.frozen HR.out.1 (turnTo_len N k) k
      have hrm : ((k : Int) + 1).tmod (N : Int) = (((k + 1) % N : Nat) : Int) := by
        rw [show (k : Int) + 1 = ((k + 1 : Nat) : Int) from by omega, tmod_nat]
      obtain ⟨y, hy⟩ : ∃ y, y = (k + 1) % N := ⟨_, rfl⟩
      rw [← hy] at hrm
      have HS := OI.set HR.out.1 (turnTo_len N k) k (y : Int)
      rw [hy, turnTo_set hlt, ← hy] at HS
      have HN : Hid (OI (wr.setCell ⟨g, k, none⟩ (.int .i64 (y : Int))) w.heap.size (.slice (some ⟨g, 0, none⟩) N c) (turnTo N (k + 1)) ∧ Below w.heap.size w (wr.setCell ⟨g, k, none⟩ (.int .i64 (y : Int)))) :=
        ⟨HS.1, HR.out.2.setCell (p := ⟨g, k, none⟩) hg1 _⟩
      clear HS hy
      go_wp2_with fail
      go_roundw
      case rel => exact ⟨k + 1, by omega, by go_num, HN.out⟩
      case measure => simp [intOf]; omega
    · go_wp2_with fail
      go_ret
      obtain rfl : k = N := by omega
      exact ⟨_, rfl, by rw [HT.out, ← turnTo_end]; exact HR.out.1, HR.out.2⟩

theorem implCyclicGroup_any {w : World} (n : Int) :
    Calls Try.prog 16 #[.int .i64 n] w fun e w' => ∃ v, e = .returned (.tuple #[v, .bool (cyclicGroup n).2]) ∧ OII w' w.heap.size v (cyclicGroup n).1 ∧ Below w.heap.size w w' := by
  go_enter Try.func16, Try.ntmps16
  go_wp2_with fail
  refine (implTurn_any n).mono ?_
  rintro e w1 ⟨v, rfl, o, b⟩
  have HO := Lib.hid (And.intro o b)
  obtain ⟨A, c, rfl, -⟩ := OI.form o
  clear o b
  go_wp2_with fail
  refine (implGroupOf_any n (RII.lit1 HO.out.1.reads)).mono ?_
  rintro e w2 ⟨v2, rfl, o, b⟩
  have HB : Hid (Below w.heap.size w w2) := bstep (HO.out.2.alloc HO.out.2.size _) b
  have HF := Lib.hid (OII.mono o (by have := HO.out.2.size; simp; omega) : OII w2 w.heap.size v2 (cyclicGroup n).1)
  clear o b
  obtain ⟨A2, c2, rfl⟩ := HF.out.reads.shape
  go_wp2_with fail
  go_ret2
  exact ⟨_, rfl, HF.out, HB.out⟩

theorem reverse_any {w : World} {lo g n c : Nat} {xs : List Int} (h : OI w lo (.slice (some ⟨g, 0, none⟩) n c) xs) (hn : xs.length = n) (hsz : xs.length ≤ 1099511627776) :
    Calls Try.prog 73 #[.slice (some ⟨g, 0, none⟩) n c] w fun e w' => e = .returned (.tuple #[]) ∧ OI w' lo (.slice (some ⟨g, 0, none⟩) n c) xs.reverse ∧ w.grownBy w' (some g) := by
  subst hn
  obtain ⟨h1, h2⟩ := h
  rcases h2 with ⟨h0, _⟩ | ⟨g', cap, cur, hv, hg, hh, hnc, hm, hcs, ht⟩
  · cases h0
  cases hv
  rw [Nat.mul_one] at ht
  refine (Sh.slices_Reverse_int g 0 c xs w (holds_of_blockI hh ht) (by omega)).mono ?_
  rintro e w' ⟨rfl, k, rfl⟩
  have e1 : putRow (Value.int .i64) (Sort.ahead w k) g 0 xs.reverse.toArray = grow (putRow (Value.int .i64) (Sort.ahead w k) g 0 xs.reverse.toArray) #[] := (grow_empty _).symm
  rw [e1]
  refine ⟨rfl, ?_, grownBy_sortedI _⟩
  have hl : xs.reverse.length = xs.length := List.length_reverse
  have := ownsRow_sortedI (n := k) (os := #[]) (ts := xs.reverse) hl hg hh hnc hm hcs
  unfold OI
  rw [hl]
  exact this

set_option maxHeartbeats 800000 in
theorem implDihedralGroup_any {w : World} (n : Int) :
    Calls Try.prog 27 #[.int .i64 n] w fun e w' => ∃ v, e = .returned (.tuple #[v, .bool (dihedralGroup n).2]) ∧ OII w' w.heap.size v (dihedralGroup n).1 ∧ Below w.heap.size w w' := by
  by_cases hr : n < 1 ∨ 10 < n
  · have HI : Hid (identityPerm n = []) := by unfold Hid identityPerm; rw [if_neg (by omega)]
    have HM := Lib.hid (mirP_no hr)
    clear hr
    go_enter Try.func27, Try.ntmps27
    go_wp2_with fail
    refine (implIdentityPerm_any (w := w) n).mono ?_
    rw [HI.out]
    rintro e w1 ⟨v, rfl, o, b⟩
    have HO := Lib.hid (And.intro o b)
    obtain ⟨A, c, rfl, -⟩ := OI.form o
    simp only [List.length_nil] at HO ⊢
    clear o b
    go_wp2_with fail
    refine (Sh.slices_Reverse_int_empty A c w1).mono ?_
    rintro e w2 ⟨rfl, rfl⟩
    go_wp2_with fail
    refine (implTurn_any n).mono ?_
    rintro e w3 ⟨v3, rfl, o, b⟩
    have HO3 := Lib.hid (And.intro o (And.intro (bstep HO.out.2 b) (HO.out.1.step b)))
    obtain ⟨A3, c3, rfl, -⟩ := OI.form o
    clear o b
    go_wp2_with fail
    refine (implGroupOf_any n (RII.lit2 HO3.out.1.reads HO3.out.2.2.reads)).mono ?_
    rw [show groupOf n [turnP n, []] = dihedralGroup n from by unfold dihedralGroup; rw [HM.out]]
    rintro e w4 ⟨v4, rfl, o, b⟩
    have HB : Hid (Below w.heap.size w w4) := bstep (HO3.out.2.1.alloc HO3.out.2.1.size _) b
    have HF := Lib.hid (OII.mono o (by have := HO3.out.2.1.size; simp; omega) : OII w4 w.heap.size v4 (dihedralGroup n).1)
    clear o b
    obtain ⟨A4, c4, rfl⟩ := HF.out.reads.shape
    go_wp2_with fail
    go_ret2
    exact ⟨_, rfl, HF.out, HB.out⟩
  obtain ⟨N, rfl⟩ := Int.eq_ofNat_of_zero_le (show 0 ≤ n by omega)
  have h1 : 1 ≤ N := by omega
  have h2 : N ≤ 10 := by omega
  have HI : Hid (identityPerm (N : Int) = identity N) := by unfold Hid identityPerm; rw [if_pos ⟨by omega, by omega⟩, Int.toNat_natCast]
  have HM := Lib.hid (mirP_yes h1 h2)
  clear hr
  go_enter Try.func27, Try.ntmps27
  go_wp2_with fail
  refine (implIdentityPerm_any (w := w) (N : Int)).mono ?_
  rw [HI.out]
  rintro e w1 ⟨v, rfl, o, b⟩
  obtain ⟨A, c, rfl, h3⟩ := OI.form o
  rw [identity_len] at h3 o ⊢
  obtain ⟨g, rfl, hg1, -⟩ := h3 (by omega)
  have HO := Lib.hid (And.intro o b)
  clear o b h3
  go_wp2_with fail
  refine (reverse_any HO.out.1 (identity_len N) (by rw [identity_len]; omega)).mono ?_
  rw [identity_rev]
  rintro e w2 ⟨rfl, o, gr⟩
  have HO2 := Lib.hid (And.intro o (HO.out.2.grown gr HO.out.2.size (fun gg hg => by cases hg; exact hg1)))
  clear o gr
  go_wp2_with fail
  refine (implTurn_any (N : Int)).mono ?_
  rintro e w3 ⟨v3, rfl, o, b⟩
  have HO3 := Lib.hid (And.intro o (And.intro (bstep HO2.out.2 b) (HO2.out.1.step b)))
  obtain ⟨A3, c3, rfl, -⟩ := OI.form o
  clear o b
  go_wp2_with fail
  refine (implGroupOf_any (N : Int) (RII.lit2 HO3.out.1.reads HO3.out.2.2.reads)).mono ?_
  rw [show groupOf N [turnP N, mirL N] = dihedralGroup N from by unfold dihedralGroup; rw [HM.out]]
  rintro e w4 ⟨v4, rfl, o, b⟩
  have HB : Hid (Below w.heap.size w w4) := bstep (HO3.out.2.1.alloc HO3.out.2.1.size _) b
  have HF := Lib.hid (OII.mono o (by have := HO3.out.2.1.size; simp; omega) : OII w4 w.heap.size v4 (dihedralGroup N).1)
  clear o b
  obtain ⟨A4, c4, rfl⟩ := HF.out.reads.shape
  go_wp2_with fail
  go_ret2
  exact ⟨_, rfl, HF.out, HB.out⟩

set_option maxHeartbeats 1600000 in
theorem implSymmetricGroup_any {w : World} (n : Int) :
    Calls Try.prog 25 #[.int .i64 n] w fun e w' => ∃ v, e = .returned (.tuple #[v, .bool (symmetricGroup n).2]) ∧ OII w' w.heap.size v (symmetricGroup n).1 ∧ Below w.heap.size w w' := by
  by_cases hr : n < 1 ∨ 5 < n
  · have HC := Lib.hid (symmetricGroup_no hr)
    rcases hr with hr | hr
    all_goals
      go_enter Try.func25, Try.ntmps25
      go_wp2_with fail
      go_ret2
      exact ⟨_, ret2 (by rw [HC.out]), by rw [HC.out]; exact OII.nil _ _, Below.refl _ _⟩
  obtain ⟨N, rfl⟩ := Int.eq_ofNat_of_zero_le (show 0 ≤ n by omega)
  have h1 : 1 ≤ N := by omega
  have h2 : N ≤ 5 := by omega
  have HI : Hid (identityPerm (N : Int) = identity N) := by unfold Hid identityPerm; rw [if_pos ⟨by omega, by omega⟩, Int.toNat_natCast]
  have HT : Hid (symmetricGroup (N : Int) = groupOf N [turnP N, swapL N]) := symmetricGroup_yes h1 h2
  have HTL : Hid (turnP (N : Int) = turnL N) := turnP_yes h1 (by omega)
  have d1 : decide ((N : Int) < 1) = false := decide_eq_false (by omega)
  have d2 : decide ((5 : Int) < (N : Int)) = false := decide_eq_false (by omega)
  clear hr
  go_enter Try.func25, Try.ntmps25
  go_wp2_with fail
  refine (implIdentityPerm_any (w := w) (N : Int)).mono ?_
  rw [HI.out]
  rintro e w1 ⟨v, rfl, o, b⟩
  obtain ⟨A, c, rfl, h3⟩ := OI.form o
  rw [identity_len] at h3 o ⊢
  obtain ⟨g, rfl, hg1, -⟩ := h3 (by omega)
  have HO := Lib.hid (And.intro o b)
  clear o b h3
  by_cases hN : 1 < N
  · have d3 : decide ((1 : Int) < (N : Int)) = true := decide_eq_true (by omega)
    have e1 := OI.cell HO.out.1 (identity_len N) 0 (by omega)
    have f1 := OI.frozen HO.out.1 (identity_len N) 0
    have s1 := OI.set HO.out.1 (identity_len N) 0 1
    have l1 : ((identity N).set 0 1).length = N := by rw [List.length_set, identity_len]
    have e2 := OI.cell s1.1 l1 1 hN
    have f2 := OI.frozen s1.1 l1 1
    have s2 := OI.set s1.1 l1 1 0
    have hsw : ((identity N).set 0 1).set 1 0 = swapL N := by unfold swapL; rw [if_pos hN]
    rw [hsw] at s2
    obtain ⟨w2, hw2⟩ : ∃ w2 : World, w2 = (w1.setCell ⟨g, 0, none⟩ (.int .i64 1)).setCell ⟨g, 1, none⟩ (.int .i64 0) := ⟨_, rfl⟩
    have HB2 : Hid (Below w.heap.size w w2) := by rw [hw2]; exact (HO.out.2.setCell (p := ⟨g, 0, none⟩) hg1 _).setCell (p := ⟨g, 1, none⟩) hg1 _
    rw [← hw2] at s2
    have HO2 := Lib.hid s2.1
    have HW2 := Lib.hid hw2
    clear s1 s2 hw2 l1 hsw
    go_wp2_with fail
    rw [← HW2.out]
    refine (implTurn_any (N : Int)).mono ?_
    rintro e w3 ⟨v3, rfl, o, b⟩
    have HO3 := Lib.hid (And.intro o (And.intro (bstep HB2.out b) (HO2.out.step b)))
    obtain ⟨A3, c3, rfl, -⟩ := OI.form o
    clear o b
    go_wp2_with fail
    refine (implGroupOf_any (N : Int) (RII.lit2 HO3.out.1.reads HO3.out.2.2.reads)).mono ?_
    rw [← HT.out]
    rintro e w4 ⟨v4, rfl, o, b⟩
    have HB : Hid (Below w.heap.size w w4) := bstep (HO3.out.2.1.alloc HO3.out.2.1.size _) b
    have HF := Lib.hid (OII.mono o (by have := HO3.out.2.1.size; simp; omega) : OII w4 w.heap.size v4 (symmetricGroup (N : Int)).1)
    clear o b
    obtain ⟨A4, c4, rfl⟩ := HF.out.reads.shape
    go_wp2_with fail
    go_ret2
    exact ⟨_, rfl, HF.out, HB.out⟩
  · have d3 : decide ((1 : Int) < (N : Int)) = false := decide_eq_false (by omega)
    have hsw : identity N = swapL N := by unfold swapL; rw [if_neg hN]
    have HB2 : Hid (Below w.heap.size w w1) := HO.out.2
    have HO2 := Lib.hid HO.out.1
    rw [hsw] at HO2
    clear hsw hN
    go_wp2_with fail
    obtain ⟨w2, hw2⟩ : ∃ w2 : World, w2 = w1 := ⟨_, rfl⟩
    subst hw2
    refine (implTurn_any (N : Int)).mono ?_
    rintro e w3 ⟨v3, rfl, o, b⟩
    have HO3 := Lib.hid (And.intro o (And.intro (bstep HB2.out b) (HO2.out.step b)))
    obtain ⟨A3, c3, rfl, -⟩ := OI.form o
    clear o b
    go_wp2_with fail
    refine (implGroupOf_any (N : Int) (RII.lit2 HO3.out.1.reads HO3.out.2.2.reads)).mono ?_
    rw [← HT.out]
    rintro e w4 ⟨v4, rfl, o, b⟩
    have HB : Hid (Below w.heap.size w w4) := bstep (HO3.out.2.1.alloc HO3.out.2.1.size _) b
    have HF := Lib.hid (OII.mono o (by have := HO3.out.2.1.size; simp; omega) : OII w4 w.heap.size v4 (symmetricGroup (N : Int)).1)
    clear o b
    obtain ⟨A4, c4, rfl⟩ := HF.out.reads.shape
    go_wp2_with fail
    go_ret2
    exact ⟨_, rfl, HF.out, HB.out⟩

end Go.Proofs.Ytogenfooeplkmaa
